/- coset.Holds; cayleyref18.Holds; The reference's system: follows, tree. -/
import Derived.Test.YtcfighimnkfmeaaZ12
import Derived.Test.YtcfighimnkfmeaaZ11
namespace Go.Proofs
open Go.RowKit Go.Shelf Go.Proofs.Ct Go.Maps

theorem LAt.cells {α : Type} {R : World → Value → α → Prop} {d : α} {w : World} {A : Option Addr} {n c : Nat} {xs : List α} (h : LAt R d w (.slice A n c) xs) : 0 < xs.length → ∃ b off, A = some ⟨b, off, none⟩ ∧ ∀ k, k < xs.length → ∃ u, w.cell? ⟨b, off + k, none⟩ = some u ∧ R w u (xs.getD k d) := by
  obtain ⟨A', c', e, -, -, h3⟩ := h.open_
  cases e
  exact h3
theorem LAt.len_le {α : Type} {R : World → Value → α → Prop} {d : α} {w : World} {v : Value} {xs : List α} (h : LAt R d w v xs) : (xs.length : Int) ≤ 9223372036854775807 := by
  obtain ⟨A', c', e, h1, h2, -⟩ := h.open_
  omega
theorem ret_bi {k : IntKind} {a c : Bool} {b d : Int} (h : a = c) (h' : b = d) : Ending.returned (.tuple #[.bool a, .int k b]) = Ending.returned (.tuple #[.bool c, .int k d]) := by rw [h, h']
set_option maxRecDepth 100000 in
set_option maxHeartbeats 2000000 in
theorem holds35_pres (w : World) (vr vs vt : Value) (g : Int) (rels sub : List W) (t : Tb) (hR : Tab w vr rels) (hS : Tab w vs sub) (ht : Tab w vt t) (he : presE g rels ≠ 0) : Calls Try.prog 35 #[.agg #[.int .i64 g, vr], vs, vt] w (HoldsPost g rels sub t w) := by
  obtain ⟨Ar, cr, rfl⟩ := Tab.form hR
  obtain ⟨As, cs, rfl⟩ := Tab.form hS
  obtain ⟨At, ct, rfl⟩ := Tab.form ht
  have H78 : Hid (∀ W, Tab W (.slice Ar rels.length cr) rels → Calls Try.prog 78 #[.agg #[.int .i64 g, .slice Ar rels.length cr]] W fun e w' => (∃ y, e = .returned (.tuple #[.int .i64 (presE g rels), .int .i64 y])) ∧ Below W.heap.size W w') := Lib.hid fun W h => pcheck78_any W _ _ rels h
  have HE : Hid (holdsE g rels sub t = (false, presE g rels)) := Lib.hid (by unfold holdsE; rw [if_pos he])
  have d1 : (presE g rels != 0) = true := by simpa using he
  generalize presE g rels = x at *
  clear he
  have HPB : Hid (∀ w0 : World, w0 = (w.alloc (.cells #[.int .i64 g, .slice Ar rels.length cr] 40)).alloc (.cells #[.slice At t.length ct] 23) → Below w.heap.size w w0 ∧ w0.heap.size = w.heap.size + 2 ∧ w0.heap[w.heap.size]? = some (.cells #[.int .i64 g, .slice Ar rels.length cr] 40 (0, 0)) ∧ w0.heap[w.heap.size + 1]? = some (.cells #[.slice At t.length ct] 23 (0, 0))) := Lib.hid fun w0 h => by
    subst h
    refine ⟨((Below.refl _ _).alloc (Nat.le_refl _) _).alloc (by simp) _, by simp, ?_, ?_⟩
    · exact (Below.heap_alloc (w.alloc _) _ w.heap.size (by simp)).trans (heap_alloc_new w _)
    · have := heap_alloc_new (w.alloc (.cells #[.int .i64 g, .slice Ar rels.length cr] 40)) (.cells #[.slice At t.length ct] 23); rwa [World.size_alloc] at this
  have HRR := Lib.hid hR
  have HSS := Lib.hid hS
  have HTT := Lib.hid ht
  clear hR hS ht
  go_enter Try.func35, Try.ntmps35
  go_wp2_with fail
  generalize hw0 : (w.alloc (.cells #[.int .i64 g, .slice Ar rels.length cr] 40)).alloc (.cells #[.slice At t.length ct] 23) = w0 at *
  obtain ⟨hb0, hsz, hbp, hbt⟩ := HPB.out w0 rfl
  have HB0 := Lib.hid hb0
  have HSZ := Lib.hid hsz
  have HBP := Lib.hid hbp
  have HBX : Hid (∀ W, Below w0.heap.size w0 W → W.cell? ⟨w.heap.size, 0, none⟩ = some (.int .i64 g) ∧ W.cell? ⟨w.heap.size, 1, none⟩ = some (.slice Ar rels.length cr) ∧ W.cell? ⟨w.heap.size + 1, 0, none⟩ = some (.slice At t.length ct)) := Lib.hid fun W h => by
    obtain ⟨a, b⟩ := cell_of2 ((h.block _ (Array.getElem?_eq_some_iff.1 hbp).1).trans hbp)
    exact ⟨a, b, (cell_of1 ((h.block _ (Array.getElem?_eq_some_iff.1 hbt).1).trans hbt)).1⟩
  have HB00 := Lib.hid (Below.refl w0.heap.size w0)
  clear hw0 hb0 hsz hbp hbt HPB
  go_wp2_with (first
    | ((with_reducible refine wpList_sel 19 ?_); refine wpList_val rfl (r_loadAt 40 (.tmp 3) _ _ rfl rfl (load40 HBP.out)) ?_)
    | (go_at_call 78; (refine (H78.out w0 (kept_tab.below HRR.out HB0.out)).mono ?_); rintro e w1 ⟨⟨y, rfl⟩, hb⟩
       have HB1 := Lib.hid hb
       obtain ⟨p1, q1, t1⟩ := HBX.out _ hb
       clear hb))
  go_ret2
  exact ⟨ret_bi (by rw [HE.out]) (by rw [HE.out]), HB0.out.trans (HB1.out.mono HB0.out.size)⟩
set_option maxRecDepth 100000 in
set_option maxHeartbeats 2000000 in
theorem holds35_sub (w : World) (vr vs vt : Value) (g : Nat) (rels sub : List W) (t : Tb) (hR : Tab w vr rels) (hS : Tab w vs sub) (ht : Tab w vt t) (hg16 : g ≤ 16) (he : presE g rels = 0) (hs : (sub.any fun w => w.any (letBad g)) = true) : Calls Try.prog 35 #[.agg #[.int .i64 (g : Int), vr], vs, vt] w (HoldsPost g rels sub t w) := by
  obtain ⟨Ar, cr, rfl⟩ := Tab.form hR
  obtain ⟨As, cs, rfl⟩ := Tab.form hS
  obtain ⟨At, ct, rfl⟩ := Tab.form ht
  have H78 : Hid (∀ W, Tab W (.slice Ar rels.length cr) rels → Calls Try.prog 78 #[.agg #[.int .i64 (g : Int), .slice Ar rels.length cr]] W fun e w' => (∃ y, e = .returned (.tuple #[.int .i64 (presE (g : Int) rels), .int .i64 y])) ∧ Below W.heap.size W w') := Lib.hid fun W h => pcheck78_any W _ _ rels h
  have H81 : Hid (∀ (W : World) (B : Nat), W.cell? ⟨B, 0, none⟩ = some (.int .i64 (g : Int)) → Tab W (.slice As sub.length cs) sub → Calls Try.prog 81 #[.slice As sub.length cs, .func (.func 91) #[] #[.pointer (some ⟨B, 0, none⟩)]] W fun e w' => e = .returned (.bool (sub.any fun w => w.any (letBad g))) ∧ Below W.heap.size W w') := Lib.hid fun W B hc h =>
    has81_any 91 _ (fun w => w.any (letBad g)) W eg91 _ sub h fun W' u k hb hk hI => neg91_any W' B g u _ hg16 ((hb.cell (p := ⟨B, 0, none⟩) (World.block_lt_of_cell? _ _ hc)).trans hc) hI
  rw [he] at H78
  have HE : Hid (holdsE g rels sub t = (false, 2)) := Lib.hid (by unfold holdsE; rw [if_neg (by rw [he]; simp), Int.toNat_natCast, if_pos hs])
  rw [hs] at H81
  clear he hs hg16
  have HPB : Hid (∀ w0 : World, w0 = (w.alloc (.cells #[.int .i64 (g : Int), .slice Ar rels.length cr] 40)).alloc (.cells #[.slice At t.length ct] 23) → Below w.heap.size w w0 ∧ w0.heap.size = w.heap.size + 2 ∧ w0.heap[w.heap.size]? = some (.cells #[.int .i64 (g : Int), .slice Ar rels.length cr] 40 (0, 0)) ∧ w0.heap[w.heap.size + 1]? = some (.cells #[.slice At t.length ct] 23 (0, 0))) := Lib.hid fun w0 h => by
    subst h
    refine ⟨((Below.refl _ _).alloc (Nat.le_refl _) _).alloc (by simp) _, by simp, ?_, ?_⟩
    · exact (Below.heap_alloc (w.alloc _) _ w.heap.size (by simp)).trans (heap_alloc_new w _)
    · have := heap_alloc_new (w.alloc (.cells #[.int .i64 (g : Int), .slice Ar rels.length cr] 40)) (.cells #[.slice At t.length ct] 23); rwa [World.size_alloc] at this
  have HRR := Lib.hid hR
  have HSS := Lib.hid hS
  have HTT := Lib.hid ht
  clear hR hS ht
  go_enter Try.func35, Try.ntmps35
  go_wp2_with fail
  generalize hw0 : (w.alloc (.cells #[.int .i64 (g : Int), .slice Ar rels.length cr] 40)).alloc (.cells #[.slice At t.length ct] 23) = w0 at *
  obtain ⟨hb0, hsz, hbp, hbt⟩ := HPB.out w0 rfl
  have HB0 := Lib.hid hb0
  have HSZ := Lib.hid hsz
  have HBP := Lib.hid hbp
  have HBX : Hid (∀ W, Below w0.heap.size w0 W → W.cell? ⟨w.heap.size, 0, none⟩ = some (.int .i64 (g : Int)) ∧ W.cell? ⟨w.heap.size, 1, none⟩ = some (.slice Ar rels.length cr) ∧ W.cell? ⟨w.heap.size + 1, 0, none⟩ = some (.slice At t.length ct)) := Lib.hid fun W h => by
    obtain ⟨a, b⟩ := cell_of2 ((h.block _ (Array.getElem?_eq_some_iff.1 hbp).1).trans hbp)
    exact ⟨a, b, (cell_of1 ((h.block _ (Array.getElem?_eq_some_iff.1 hbt).1).trans hbt)).1⟩
  have HB00 := Lib.hid (Below.refl w0.heap.size w0)
  clear hw0 hb0 hsz hbp hbt HPB
  go_wp2_with (first
    | ((with_reducible refine wpList_sel 19 ?_); refine wpList_val rfl (r_loadAt 40 (.tmp 3) _ _ rfl rfl (load40 HBP.out)) ?_)
    | (go_at_call 78; (refine (H78.out w0 (kept_tab.below HRR.out HB0.out)).mono ?_); rintro e w1 ⟨⟨y, rfl⟩, hb⟩
       have HB1 := Lib.hid hb
       obtain ⟨p1, q1, t1⟩ := HBX.out _ hb
       clear hb)
    | (go_at_call 81; (refine (H81.out _ _ (HBX.out _ HB1.out).1 (kept_tab.below HSS.out (HB0.out.trans (HB1.out.mono HB0.out.size)))).mono ?_); rintro e w2 ⟨rfl, hb⟩
       have HB2 := Lib.hid (HB1.out.trans (hb.mono HB1.out.size))
       obtain ⟨p2, q2, t2⟩ := HBX.out _ HB2.out
       clear hb p1 q1 t1))
  go_ret2
  exact ⟨ret_bi (by rw [HE.out]) (by rw [HE.out]), HB0.out.trans (HB2.out.mono HB0.out.size)⟩
set_option maxRecDepth 100000 in
set_option maxHeartbeats 2000000 in
theorem holds35_chk (w : World) (vr vs vt : Value) (g : Nat) (rels sub : List W) (t : Tb) (hR : Tab w vr rels) (hS : Tab w vs sub) (ht : Tab w vt t) (hg16 : g ≤ 16) (he : presE g rels = 0) (hs : (sub.any fun w => w.any (letBad g)) = false) (hc : (check g t).1 ≠ 0) : Calls Try.prog 35 #[.agg #[.int .i64 (g : Int), vr], vs, vt] w (HoldsPost g rels sub t w) := by
  obtain ⟨Ar, cr, rfl⟩ := Tab.form hR
  obtain ⟨As, cs, rfl⟩ := Tab.form hS
  obtain ⟨At, ct, rfl⟩ := Tab.form ht
  have H78 : Hid (∀ W, Tab W (.slice Ar rels.length cr) rels → Calls Try.prog 78 #[.agg #[.int .i64 (g : Int), .slice Ar rels.length cr]] W fun e w' => (∃ y, e = .returned (.tuple #[.int .i64 (presE (g : Int) rels), .int .i64 y])) ∧ Below W.heap.size W w') := Lib.hid fun W h => pcheck78_any W _ _ rels h
  have H81 : Hid (∀ (W : World) (B : Nat), W.cell? ⟨B, 0, none⟩ = some (.int .i64 (g : Int)) → Tab W (.slice As sub.length cs) sub → Calls Try.prog 81 #[.slice As sub.length cs, .func (.func 91) #[] #[.pointer (some ⟨B, 0, none⟩)]] W fun e w' => e = .returned (.bool (sub.any fun w => w.any (letBad g))) ∧ Below W.heap.size W w') := Lib.hid fun W B hc h =>
    has81_any 91 _ (fun w => w.any (letBad g)) W eg91 _ sub h fun W' u k hb hk hI => neg91_any W' B g u _ hg16 ((hb.cell (p := ⟨B, 0, none⟩) (World.block_lt_of_cell? _ _ hc)).trans hc) hI
  have H43 : Hid (∀ W, Tab W (.slice At t.length ct) t → Calls Try.prog 43 #[.int .i64 (g : Int), .slice At t.length ct] W fun e w' => (∃ y, e = .returned (.tuple #[.int .i64 (check g t).1, .int .i64 y])) ∧ Below W.heap.size W w') := Lib.hid fun W h => (check43_any W _ _ t h).mono fun e w' ⟨a, b⟩ => ⟨⟨_, a⟩, b⟩
  rw [he] at H78
  have HE : Hid (holdsE g rels sub t = (false, (check g t).1)) := Lib.hid (by unfold holdsE; rw [if_neg (by rw [he]; simp), Int.toNat_natCast, if_neg (by rw [hs]; simp), if_pos hc])
  rw [hs] at H81
  have d1 : ((check g t).1 != 0) = true := by simpa using hc
  generalize (check g t).1 = x at *
  clear he hs hg16 hc
  have HPB : Hid (∀ w0 : World, w0 = (w.alloc (.cells #[.int .i64 (g : Int), .slice Ar rels.length cr] 40)).alloc (.cells #[.slice At t.length ct] 23) → Below w.heap.size w w0 ∧ w0.heap.size = w.heap.size + 2 ∧ w0.heap[w.heap.size]? = some (.cells #[.int .i64 (g : Int), .slice Ar rels.length cr] 40 (0, 0)) ∧ w0.heap[w.heap.size + 1]? = some (.cells #[.slice At t.length ct] 23 (0, 0))) := Lib.hid fun w0 h => by
    subst h
    refine ⟨((Below.refl _ _).alloc (Nat.le_refl _) _).alloc (by simp) _, by simp, ?_, ?_⟩
    · exact (Below.heap_alloc (w.alloc _) _ w.heap.size (by simp)).trans (heap_alloc_new w _)
    · have := heap_alloc_new (w.alloc (.cells #[.int .i64 (g : Int), .slice Ar rels.length cr] 40)) (.cells #[.slice At t.length ct] 23); rwa [World.size_alloc] at this
  have HRR := Lib.hid hR
  have HSS := Lib.hid hS
  have HTT := Lib.hid ht
  clear hR hS ht
  go_enter Try.func35, Try.ntmps35
  go_wp2_with fail
  generalize hw0 : (w.alloc (.cells #[.int .i64 (g : Int), .slice Ar rels.length cr] 40)).alloc (.cells #[.slice At t.length ct] 23) = w0 at *
  obtain ⟨hb0, hsz, hbp, hbt⟩ := HPB.out w0 rfl
  have HB0 := Lib.hid hb0
  have HSZ := Lib.hid hsz
  have HBP := Lib.hid hbp
  have HBX : Hid (∀ W, Below w0.heap.size w0 W → W.cell? ⟨w.heap.size, 0, none⟩ = some (.int .i64 (g : Int)) ∧ W.cell? ⟨w.heap.size, 1, none⟩ = some (.slice Ar rels.length cr) ∧ W.cell? ⟨w.heap.size + 1, 0, none⟩ = some (.slice At t.length ct)) := Lib.hid fun W h => by
    obtain ⟨a, b⟩ := cell_of2 ((h.block _ (Array.getElem?_eq_some_iff.1 hbp).1).trans hbp)
    exact ⟨a, b, (cell_of1 ((h.block _ (Array.getElem?_eq_some_iff.1 hbt).1).trans hbt)).1⟩
  have HB00 := Lib.hid (Below.refl w0.heap.size w0)
  clear hw0 hb0 hsz hbp hbt HPB
  go_wp2_with (first
    | ((with_reducible refine wpList_sel 19 ?_); refine wpList_val rfl (r_loadAt 40 (.tmp 3) _ _ rfl rfl (load40 HBP.out)) ?_)
    | (go_at_call 78; (refine (H78.out w0 (kept_tab.below HRR.out HB0.out)).mono ?_); rintro e w1 ⟨⟨y, rfl⟩, hb⟩
       have HB1 := Lib.hid hb
       obtain ⟨p1, q1, t1⟩ := HBX.out _ hb
       clear hb)
    | (go_at_call 81; (refine (H81.out _ _ (HBX.out _ HB1.out).1 (kept_tab.below HSS.out (HB0.out.trans (HB1.out.mono HB0.out.size)))).mono ?_); rintro e w2 ⟨rfl, hb⟩
       have HB2 := Lib.hid (HB1.out.trans (hb.mono HB1.out.size))
       obtain ⟨p2, q2, t2⟩ := HBX.out _ HB2.out
       clear hb p1 q1 t1)
    | (go_at_call 43; (refine (H43.out _ (kept_tab.below HTT.out (HB0.out.trans (HB2.out.mono HB0.out.size)))).mono ?_); rintro e w3 ⟨⟨y3, rfl⟩, hb⟩
       have HB3 := Lib.hid (HB2.out.trans (hb.mono HB2.out.size))
       obtain ⟨p3, q3, t3⟩ := HBX.out _ HB3.out
       clear hb p2 q2 t2))
  go_ret2
  exact ⟨ret_bi (by rw [HE.out]) (by rw [HE.out]), HB0.out.trans (HB3.out.mono HB0.out.size)⟩
set_option maxRecDepth 100000 in
set_option maxHeartbeats 2000000 in
theorem holds35_part (w : World) (vr vs vt : Value) (g : Nat) (rels sub : List W) (t : Tb) (hR : Tab w vr rels) (hS : Tab w vs sub) (ht : Tab w vt t) (hg16 : g ≤ 16) (he : presE g rels = 0) (hs : (sub.any fun w => w.any (letBad g)) = false) (hc : (check g t).1 = 0) (hp : complete t = false) : Calls Try.prog 35 #[.agg #[.int .i64 (g : Int), vr], vs, vt] w (HoldsPost g rels sub t w) := by
  obtain ⟨Ar, cr, rfl⟩ := Tab.form hR
  obtain ⟨As, cs, rfl⟩ := Tab.form hS
  obtain ⟨At, ct, rfl⟩ := Tab.form ht
  have H78 : Hid (∀ W, Tab W (.slice Ar rels.length cr) rels → Calls Try.prog 78 #[.agg #[.int .i64 (g : Int), .slice Ar rels.length cr]] W fun e w' => (∃ y, e = .returned (.tuple #[.int .i64 (presE (g : Int) rels), .int .i64 y])) ∧ Below W.heap.size W w') := Lib.hid fun W h => pcheck78_any W _ _ rels h
  have H81 : Hid (∀ (W : World) (B : Nat), W.cell? ⟨B, 0, none⟩ = some (.int .i64 (g : Int)) → Tab W (.slice As sub.length cs) sub → Calls Try.prog 81 #[.slice As sub.length cs, .func (.func 91) #[] #[.pointer (some ⟨B, 0, none⟩)]] W fun e w' => e = .returned (.bool (sub.any fun w => w.any (letBad g))) ∧ Below W.heap.size W w') := Lib.hid fun W B hc h =>
    has81_any 91 _ (fun w => w.any (letBad g)) W eg91 _ sub h fun W' u k hb hk hI => neg91_any W' B g u _ hg16 ((hb.cell (p := ⟨B, 0, none⟩) (World.block_lt_of_cell? _ _ hc)).trans hc) hI
  have H43 : Hid (∀ W, Tab W (.slice At t.length ct) t → Calls Try.prog 43 #[.int .i64 (g : Int), .slice At t.length ct] W fun e w' => (∃ y, e = .returned (.tuple #[.int .i64 (check g t).1, .int .i64 y])) ∧ Below W.heap.size W w') := Lib.hid fun W h => (check43_any W _ _ t h).mono fun e w' ⟨a, b⟩ => ⟨⟨_, a⟩, b⟩
  have H45 : Hid (∀ W, Tab W (.slice At t.length ct) t → Calls Try.prog 45 #[.slice At t.length ct] W fun e w' => e = .returned (.bool (complete t)) ∧ Below W.heap.size W w') := Lib.hid fun W h => complete45_any W _ t h
  rw [he] at H78
  have HE : Hid (holdsE g rels sub t = (false, 0)) := Lib.hid (by unfold holdsE; rw [if_neg (by rw [he]; simp), Int.toNat_natCast, if_neg (by rw [hs]; simp), if_neg (by rw [hc]; simp), holds_part hp])
  rw [hs] at H81
  rw [hc] at H43
  rw [hp] at H45
  clear he hs hg16 hc hp
  have HPB : Hid (∀ w0 : World, w0 = (w.alloc (.cells #[.int .i64 (g : Int), .slice Ar rels.length cr] 40)).alloc (.cells #[.slice At t.length ct] 23) → Below w.heap.size w w0 ∧ w0.heap.size = w.heap.size + 2 ∧ w0.heap[w.heap.size]? = some (.cells #[.int .i64 (g : Int), .slice Ar rels.length cr] 40 (0, 0)) ∧ w0.heap[w.heap.size + 1]? = some (.cells #[.slice At t.length ct] 23 (0, 0))) := Lib.hid fun w0 h => by
    subst h
    refine ⟨((Below.refl _ _).alloc (Nat.le_refl _) _).alloc (by simp) _, by simp, ?_, ?_⟩
    · exact (Below.heap_alloc (w.alloc _) _ w.heap.size (by simp)).trans (heap_alloc_new w _)
    · have := heap_alloc_new (w.alloc (.cells #[.int .i64 (g : Int), .slice Ar rels.length cr] 40)) (.cells #[.slice At t.length ct] 23); rwa [World.size_alloc] at this
  have HRR := Lib.hid hR
  have HSS := Lib.hid hS
  have HTT := Lib.hid ht
  clear hR hS ht
  go_enter Try.func35, Try.ntmps35
  go_wp2_with fail
  generalize hw0 : (w.alloc (.cells #[.int .i64 (g : Int), .slice Ar rels.length cr] 40)).alloc (.cells #[.slice At t.length ct] 23) = w0 at *
  obtain ⟨hb0, hsz, hbp, hbt⟩ := HPB.out w0 rfl
  have HB0 := Lib.hid hb0
  have HSZ := Lib.hid hsz
  have HBP := Lib.hid hbp
  have HBX : Hid (∀ W, Below w0.heap.size w0 W → W.cell? ⟨w.heap.size, 0, none⟩ = some (.int .i64 (g : Int)) ∧ W.cell? ⟨w.heap.size, 1, none⟩ = some (.slice Ar rels.length cr) ∧ W.cell? ⟨w.heap.size + 1, 0, none⟩ = some (.slice At t.length ct)) := Lib.hid fun W h => by
    obtain ⟨a, b⟩ := cell_of2 ((h.block _ (Array.getElem?_eq_some_iff.1 hbp).1).trans hbp)
    exact ⟨a, b, (cell_of1 ((h.block _ (Array.getElem?_eq_some_iff.1 hbt).1).trans hbt)).1⟩
  have HB00 := Lib.hid (Below.refl w0.heap.size w0)
  clear hw0 hb0 hsz hbp hbt HPB
  go_wp2_with (first
    | ((with_reducible refine wpList_sel 19 ?_); refine wpList_val rfl (r_loadAt 40 (.tmp 3) _ _ rfl rfl (load40 HBP.out)) ?_)
    | (go_at_call 78; (refine (H78.out w0 (kept_tab.below HRR.out HB0.out)).mono ?_); rintro e w1 ⟨⟨y, rfl⟩, hb⟩
       have HB1 := Lib.hid hb
       obtain ⟨p1, q1, t1⟩ := HBX.out _ hb
       clear hb)
    | (go_at_call 81; (refine (H81.out _ _ (HBX.out _ HB1.out).1 (kept_tab.below HSS.out (HB0.out.trans (HB1.out.mono HB0.out.size)))).mono ?_); rintro e w2 ⟨rfl, hb⟩
       have HB2 := Lib.hid (HB1.out.trans (hb.mono HB1.out.size))
       obtain ⟨p2, q2, t2⟩ := HBX.out _ HB2.out
       clear hb p1 q1 t1)
    | (go_at_call 43; (refine (H43.out _ (kept_tab.below HTT.out (HB0.out.trans (HB2.out.mono HB0.out.size)))).mono ?_); rintro e w3 ⟨⟨y3, rfl⟩, hb⟩
       have HB3 := Lib.hid (HB2.out.trans (hb.mono HB2.out.size))
       obtain ⟨p3, q3, t3⟩ := HBX.out _ HB3.out
       clear hb p2 q2 t2)
    | (go_at_call 45; (refine (H45.out _ (kept_tab.below HTT.out (HB0.out.trans (HB3.out.mono HB0.out.size)))).mono ?_); rintro e w4 ⟨rfl, hb⟩
       have HB4 := Lib.hid (HB3.out.trans (hb.mono HB3.out.size))
       obtain ⟨p4, q4, t4⟩ := HBX.out _ HB4.out
       clear hb p3 q3 t3))
  go_ret2
  exact ⟨ret_bi (by rw [HE.out]) (by rw [HE.out]), HB0.out.trans (HB4.out.mono HB0.out.size)⟩
set_option maxRecDepth 100000 in
set_option maxHeartbeats 2000000 in
theorem holds35_good (w : World) (vr vs vt : Value) (g : Nat) (rels sub : List W) (t : Tb) (hR : Tab w vr rels) (hS : Tab w vs sub) (ht : Tab w vt t) (hg16 : g ≤ 16) (he : presE g rels = 0) (hs : (sub.any fun w => w.any (letBad g)) = false) (hc : (check g t).1 = 0) (hp : complete t = true) (hg : TGood g t) : Calls Try.prog 35 #[.agg #[.int .i64 (g : Int), vr], vs, vt] w (HoldsPost g rels sub t w) := by
  obtain ⟨Ar, cr, rfl⟩ := Tab.form hR
  obtain ⟨As, cs, rfl⟩ := Tab.form hS
  obtain ⟨At, ct, rfl⟩ := Tab.form ht
  have HRC := Lib.hid hR.cells
  have hrl1 := hR.len_le
  have hsl1 := hS.len_le
  have HSC := Lib.hid hS.cells
  have H78 : Hid (∀ W, Tab W (.slice Ar rels.length cr) rels → Calls Try.prog 78 #[.agg #[.int .i64 (g : Int), .slice Ar rels.length cr]] W fun e w' => (∃ y, e = .returned (.tuple #[.int .i64 (presE (g : Int) rels), .int .i64 y])) ∧ Below W.heap.size W w') := Lib.hid fun W h => pcheck78_any W _ _ rels h
  have H81 : Hid (∀ (W : World) (B : Nat), W.cell? ⟨B, 0, none⟩ = some (.int .i64 (g : Int)) → Tab W (.slice As sub.length cs) sub → Calls Try.prog 81 #[.slice As sub.length cs, .func (.func 91) #[] #[.pointer (some ⟨B, 0, none⟩)]] W fun e w' => e = .returned (.bool (sub.any fun w => w.any (letBad g))) ∧ Below W.heap.size W w') := Lib.hid fun W B hc h =>
    has81_any 91 _ (fun w => w.any (letBad g)) W eg91 _ sub h fun W' u k hb hk hI => neg91_any W' B g u _ hg16 ((hb.cell (p := ⟨B, 0, none⟩) (World.block_lt_of_cell? _ _ hc)).trans hc) hI
  have H43 : Hid (∀ W, Tab W (.slice At t.length ct) t → Calls Try.prog 43 #[.int .i64 (g : Int), .slice At t.length ct] W fun e w' => (∃ y, e = .returned (.tuple #[.int .i64 (check g t).1, .int .i64 y])) ∧ Below W.heap.size W w') := Lib.hid fun W h => (check43_any W _ _ t h).mono fun e w' ⟨a, b⟩ => ⟨⟨_, a⟩, b⟩
  have H45 : Hid (∀ W, Tab W (.slice At t.length ct) t → Calls Try.prog 45 #[.slice At t.length ct] W fun e w' => e = .returned (.bool (complete t)) ∧ Below W.heap.size W w') := Lib.hid fun W h => complete45_any W _ t h
  have HRL : Hid (∀ j, j < rels.length → LetsOk g (rels.getD j [])) := Lib.hid fun j hj => by
    obtain ⟨gn, e, -, -, -, h⟩ := presE_good he
    obtain rfl : g = gn := by omega
    exact (h j hj).1
  have HSL := Lib.hid (subs_good hs)
  have HG := Lib.hid hg
  have HCP := Lib.hid hp
  have hn2 := hg.n2
  rw [he] at H78
  have HE : Hid (holdsE g rels sub t = (holdsB rels sub t, 0)) := Lib.hid (by unfold holdsE; rw [if_neg (by rw [he]; simp), Int.toNat_natCast, if_neg (by rw [hs]; simp), if_neg (by rw [hc]; simp)])
  rw [hs] at H81
  rw [hc] at H43
  rw [hp] at H45
  have hrl0 : (0 : Int) ≤ (rels.length : Int) := Int.natCast_nonneg _
  have htl0 : (0 : Int) ≤ (t.length : Int) := Int.natCast_nonneg _
  have hsl0 : (0 : Int) ≤ (sub.length : Int) := Int.natCast_nonneg _
  clear he hs hg16 hc hp hg
  have HPB : Hid (∀ w0 : World, w0 = (w.alloc (.cells #[.int .i64 (g : Int), .slice Ar rels.length cr] 40)).alloc (.cells #[.slice At t.length ct] 23) → Below w.heap.size w w0 ∧ w0.heap.size = w.heap.size + 2 ∧ w0.heap[w.heap.size]? = some (.cells #[.int .i64 (g : Int), .slice Ar rels.length cr] 40 (0, 0)) ∧ w0.heap[w.heap.size + 1]? = some (.cells #[.slice At t.length ct] 23 (0, 0))) := Lib.hid fun w0 h => by
    subst h
    refine ⟨((Below.refl _ _).alloc (Nat.le_refl _) _).alloc (by simp) _, by simp, ?_, ?_⟩
    · exact (Below.heap_alloc (w.alloc _) _ w.heap.size (by simp)).trans (heap_alloc_new w _)
    · have := heap_alloc_new (w.alloc (.cells #[.int .i64 (g : Int), .slice Ar rels.length cr] 40)) (.cells #[.slice At t.length ct] 23); rwa [World.size_alloc] at this
  have HRR := Lib.hid hR
  have HSS := Lib.hid hS
  have HTT := Lib.hid ht
  clear hR hS ht
  go_enter Try.func35, Try.ntmps35
  go_wp2_with fail
  generalize hw0 : (w.alloc (.cells #[.int .i64 (g : Int), .slice Ar rels.length cr] 40)).alloc (.cells #[.slice At t.length ct] 23) = w0 at *
  obtain ⟨hb0, hsz, hbp, hbt⟩ := HPB.out w0 rfl
  have HB0 := Lib.hid hb0
  have HSZ := Lib.hid hsz
  have HBP := Lib.hid hbp
  have HBX : Hid (∀ W, Below w0.heap.size w0 W → W.cell? ⟨w.heap.size, 0, none⟩ = some (.int .i64 (g : Int)) ∧ W.cell? ⟨w.heap.size, 1, none⟩ = some (.slice Ar rels.length cr) ∧ W.cell? ⟨w.heap.size + 1, 0, none⟩ = some (.slice At t.length ct)) := Lib.hid fun W h => by
    obtain ⟨a, b⟩ := cell_of2 ((h.block _ (Array.getElem?_eq_some_iff.1 hbp).1).trans hbp)
    exact ⟨a, b, (cell_of1 ((h.block _ (Array.getElem?_eq_some_iff.1 hbt).1).trans hbt)).1⟩
  have HB00 := Lib.hid (Below.refl w0.heap.size w0)
  clear hw0 hb0 hsz hbp hbt HPB
  go_wp2_with (first
    | ((with_reducible refine wpList_sel 19 ?_); refine wpList_val rfl (r_loadAt 40 (.tmp 3) _ _ rfl rfl (load40 HBP.out)) ?_)
    | (go_at_call 78; (refine (H78.out w0 (kept_tab.below HRR.out HB0.out)).mono ?_); rintro e w1 ⟨⟨y, rfl⟩, hb⟩
       have HB1 := Lib.hid hb
       obtain ⟨p1, q1, t1⟩ := HBX.out _ hb
       clear hb)
    | (go_at_call 81; (refine (H81.out _ _ (HBX.out _ HB1.out).1 (kept_tab.below HSS.out (HB0.out.trans (HB1.out.mono HB0.out.size)))).mono ?_); rintro e w2 ⟨rfl, hb⟩
       have HB2 := Lib.hid (HB1.out.trans (hb.mono HB1.out.size))
       obtain ⟨p2, q2, t2⟩ := HBX.out _ HB2.out
       clear hb p1 q1 t1)
    | (go_at_call 43; (refine (H43.out _ (kept_tab.below HTT.out (HB0.out.trans (HB2.out.mono HB0.out.size)))).mono ?_); rintro e w3 ⟨⟨y3, rfl⟩, hb⟩
       have HB3 := Lib.hid (HB2.out.trans (hb.mono HB2.out.size))
       obtain ⟨p3, q3, t3⟩ := HBX.out _ HB3.out
       clear hb p2 q2 t2)
    | (go_at_call 45; (refine (H45.out _ (kept_tab.below HTT.out (HB0.out.trans (HB3.out.mono HB0.out.size)))).mono ?_); rintro e w4 ⟨rfl, hb⟩
       have HB4 := Lib.hid (HB3.out.trans (hb.mono HB3.out.size))
       obtain ⟨p4, q4, t4⟩ := HBX.out _ HB4.out
       clear hb p3 q3 t3))
  go_loopw [45] (fun i wr => ∃ k : Nat, i = .int .i64 k ∧ k ≤ sub.length ∧ Hid (∀ j, j < k → leads t 0 (sub.getD j []) = 0) ∧ Hid (Below w0.heap.size w0 wr)) (fun i _ => sub.length - (intOf i).toNat)
  case atStart => exact ⟨0, rfl, by omega, Lib.hid fun j hj => absurd hj (by omega), HB4⟩
  case round =>
    clear p4 q4 t4 HB4
    obtain ⟨k, rfl, hk, HZ, HB⟩ := hrel
    have hk0 : (0 : Int) ≤ (k : Int) := Int.natCast_nonneg _
    obtain ⟨p5, q5, t5⟩ := HBX.out _ HB.out
    have HBW := Lib.hid (HB0.out.trans (HB.out.mono HB0.out.size))
    by_cases hlt : k < sub.length
    · have hlt' : (k : Int) < (sub.length : Int) := by omega
      obtain ⟨b, o, rfl, hcc⟩ := HSC.out (by omega)
      obtain ⟨u, hu, hI⟩ := hcc k hlt
      have hu' := (HBW.out.cell (p := ⟨b, o + k, none⟩) (World.block_lt_of_cell? w _ hu)).trans hu
      have HI := Lib.hid (hI.below HBW.out)
      obtain ⟨Au, cu, rfl, -, -, -⟩ := hI.open_
      have HBA : Hid (Below wr.heap.size wr (wr.alloc (.cells #[.int .i64 0] 3))) := Lib.hid ((Below.refl _ _).alloc (Nat.le_refl _) _)
      have h93 := stay93 (wr.alloc (.cells #[.int .i64 0] 3)) (w.heap.size + 1) wr.heap.size (.slice At t.length ct) (.slice Au (sub.getD k []).length cu) g t 0 (sub.getD k []) ((HBX.out _ (HB.out.trans (HBA.out.mono HB.out.size))).2.2) (cell_of1 (heap_alloc_new wr _)).1
        (kept_tab.below HTT.out (HBW.out.trans (HBA.out.mono HBW.out.size))) (HI.out.below HBA.out) HG.out (HSL.out k hlt) (by have := HG.out.n1; omega)
      have HN : Hid (leads t 0 (sub.getD k []) = 0 → ∀ j, j < k + 1 → leads t 0 (sub.getD j []) = 0) := Lib.hid fun h => all_succ HZ.out h
      have HF : Hid (leads t 0 (sub.getD k []) ≠ 0 → holdsB rels sub t = false) := Lib.hid fun h => holds_sub hlt h
      have H93 := Lib.hid h93
      clear hcc hu hI h93
      simp only [Int.natCast_zero] at H93
      generalize sub.getD k [] = ws at *
      by_cases hz : leads t 0 ws = 0
      · rw [decide_eq_true hz] at H93
        have HN2 := Lib.hid (HN.out hz)
        clear hz HN HF
        go_wp2_with (first
          | (go_at_call 92; (with_reducible refine (stay92 _ _ _).mono ?_); rintro e w' ⟨rfl, rfl⟩)
          | (go_at_call 93; (with_reducible refine H93.out.mono ?_); rintro e w6 ⟨rfl, hb⟩; have HB6 := Lib.hid ((HB.out.trans (HBA.out.mono HB.out.size)).trans (hb.mono (HB.out.trans (HBA.out.mono HB.out.size)).size)); clear hb))
        go_roundw
        case rel => exact ⟨k + 1, by go_num, by omega, HN2, HB6⟩
        case measure => simp [intOf]; omega
      · rw [decide_eq_false hz] at H93
        have HF2 := Lib.hid (HF.out hz)
        clear hz HN HF
        go_wp2_with (first
          | (go_at_call 92; (with_reducible refine (stay92 _ _ _).mono ?_); rintro e w' ⟨rfl, rfl⟩)
          | (go_at_call 93; (with_reducible refine H93.out.mono ?_); rintro e w6 ⟨rfl, hb⟩; have HB6 := Lib.hid ((HB.out.trans (HBA.out.mono HB.out.size)).trans (hb.mono (HB.out.trans (HBA.out.mono HB.out.size)).size)); clear hb))
        go_ret2
        exact ⟨ret_bi (by rw [HE.out, HF2.out]) (by rw [HE.out]), HB0.out.trans (HB6.out.mono HB0.out.size)⟩
    · obtain rfl : k = sub.length := by omega
      rename World => w5
      go_wp2_with fail
      go_loopw [57] (fun i wr => ∃ r : Nat, i = .int .i64 r ∧ r ≤ t.length ∧ Hid (∀ j, j < r → staysB t (j : Int) rels = true) ∧ Hid (Below w0.heap.size w0 wr)) (fun i _ => t.length - (intOf i).toNat)
      case atStart => exact ⟨0, rfl, by omega, Lib.hid fun j hj => absurd hj (by omega), HB⟩
      case round =>
        clear p5 q5 t5 HB HBW
        obtain ⟨r, rfl, hr, HZR, HB⟩ := hrel
        have hr0 : (0 : Int) ≤ (r : Int) := Int.natCast_nonneg _
        obtain ⟨p5, q5, t5⟩ := HBX.out _ HB.out
        by_cases hrl : r < t.length
        · have hrl' : (r : Int) < (t.length : Int) := by omega
          rename World => w6
          go_wp2_with fail
          go_loopw [63] (fun i wr => ∃ k : Nat, i = .int .i64 k ∧ k ≤ rels.length ∧ Hid (∀ j, j < k → leads t r (rels.getD j []) = r) ∧ Hid (Below w0.heap.size w0 wr)) (fun i _ => rels.length - (intOf i).toNat)
          case atStart => exact ⟨0, rfl, by omega, Lib.hid fun j hj => absurd hj (by omega), HB⟩
          case round =>
            clear p5 q5 t5 HB
            obtain ⟨k, rfl, hk, HZK, HB⟩ := hrel
            have hk0 : (0 : Int) ≤ (k : Int) := Int.natCast_nonneg _
            obtain ⟨p5, q5, t5⟩ := HBX.out _ HB.out
            have HBW := Lib.hid (HB0.out.trans (HB.out.mono HB0.out.size))
            by_cases hlt : k < rels.length
            · have hlt' : (k : Int) < (rels.length : Int) := by omega
              obtain ⟨b, o, rfl, hcc⟩ := HRC.out (by omega)
              obtain ⟨u, hu, hI⟩ := hcc k hlt
              have hu' := (HBW.out.cell (p := ⟨b, o + k, none⟩) (World.block_lt_of_cell? w _ hu)).trans hu
              have HI := Lib.hid (hI.below HBW.out)
              obtain ⟨Au, cu, rfl, -, -, -⟩ := hI.open_
              have HBA : Hid (Below wr.heap.size wr (wr.alloc (.cells #[.int .i64 (r : Int)] 3))) := Lib.hid ((Below.refl _ _).alloc (Nat.le_refl _) _)
              have h93 := stay93 (wr.alloc (.cells #[.int .i64 (r : Int)] 3)) (w.heap.size + 1) wr.heap.size (.slice At t.length ct) (.slice Au (rels.getD k []).length cu) g t r (rels.getD k []) ((HBX.out _ (HB.out.trans (HBA.out.mono HB.out.size))).2.2) (cell_of1 (heap_alloc_new wr _)).1
                (kept_tab.below HTT.out (HBW.out.trans (HBA.out.mono HBW.out.size))) (HI.out.below HBA.out) HG.out (HRL.out k hlt) hrl
              have HN : Hid (leads t r (rels.getD k []) = r → ∀ j, j < k + 1 → leads t r (rels.getD j []) = r) := Lib.hid fun h => all_succ HZK.out h
              have HF : Hid (leads t r (rels.getD k []) ≠ r → holdsB rels sub t = false) := Lib.hid fun h => holds_rel hrl hlt h
              have H93 := Lib.hid h93
              clear hcc hu hI h93
              generalize rels.getD k [] = ws at *
              by_cases hz : leads t r ws = r
              · rw [decide_eq_true hz] at H93
                have HN2 := Lib.hid (HN.out hz)
                clear hz HN HF
                go_wp2_with (first
                  | (go_at_call 92; (with_reducible refine (stay92 _ _ _).mono ?_); rintro e w' ⟨rfl, rfl⟩)
                  | (go_at_call 93; (with_reducible refine H93.out.mono ?_); rintro e w8 ⟨rfl, hb⟩; have HB8 := Lib.hid ((HB.out.trans (HBA.out.mono HB.out.size)).trans (hb.mono (HB.out.trans (HBA.out.mono HB.out.size)).size)); clear hb))
                go_roundw
                case rel => exact ⟨k + 1, by go_num, by omega, HN2, HB8⟩
                case measure => simp [intOf]; omega
              · rw [decide_eq_false hz] at H93
                have HF2 := Lib.hid (HF.out hz)
                clear hz HN HF
                go_wp2_with (first
                  | (go_at_call 92; (with_reducible refine (stay92 _ _ _).mono ?_); rintro e w' ⟨rfl, rfl⟩)
                  | (go_at_call 93; (with_reducible refine H93.out.mono ?_); rintro e w8 ⟨rfl, hb⟩; have HB8 := Lib.hid ((HB.out.trans (HBA.out.mono HB.out.size)).trans (hb.mono (HB.out.trans (HBA.out.mono HB.out.size)).size)); clear hb))
                go_ret2
                exact ⟨ret_bi (by rw [HE.out, HF2.out]) (by rw [HE.out]), HB0.out.trans (HB8.out.mono HB0.out.size)⟩
            · obtain rfl : k = rels.length := by omega
              rename World => w9
              go_wp2_with fail
              go_roundw
              case rel => exact ⟨r + 1, by go_num, by omega, Lib.hid (all_succ HZR.out (staysB_true HZK.out)), HB⟩
              case measure => simp [intOf]; omega
        · obtain rfl : r = t.length := by omega
          rename World => w7
          go_wp2_with fail
          go_ret2
          exact ⟨ret_bi (by rw [HE.out, holds_true HCP.out HZ.out HZR.out]) (by rw [HE.out]), HB0.out.trans (HB.out.mono HB0.out.size)⟩
theorem holds35_any (w : World) (vr vs vt : Value) (g : Int) (rels sub : List W) (t : Tb) (hR : Tab w vr rels) (hS : Tab w vs sub) (ht : Tab w vt t) : Calls Try.prog 35 #[.agg #[.int .i64 g, vr], vs, vt] w (HoldsPost g rels sub t w) := by
  by_cases he : presE g rels = 0
  · obtain ⟨gn, rfl, h1, h2, -, -⟩ := presE_good he
    cases hs : (sub.any fun w => w.any (letBad gn)) with
    | true => exact holds35_sub w vr vs vt gn rels sub t hR hS ht h2 he hs
    | false =>
      by_cases hc : (check gn t).1 = 0
      · obtain ⟨-, hg, -⟩ := check_good hc
        cases hp : complete t with
        | true => exact holds35_good w vr vs vt gn rels sub t hR hS ht h2 he hs hc hp hg
        | false => exact holds35_part w vr vs vt gn rels sub t hR hS ht h2 he hs hc hp
      · exact holds35_chk w vr vs vt gn rels sub t hR hS ht h2 he hs hc
  · exact holds35_pres w vr vs vt g rels sub t hR hS ht he
end Go.Proofs
namespace Go.Proofs
open Go.RowKit Go.Shelf Go.Proofs.Ct Go.Maps

set_option maxRecDepth 100000 in
set_option maxHeartbeats 1000000 in
theorem holds36_pres (w : World) (vr vs vt : Value) (g : Int) (rels sub : List W) (t : Tb) (hR : Tab w vr rels) (hS : Tab w vs sub) (ht : Tab w vt t) (hsm : ∀ j, (rels.getD j []).length ≤ 100000) (he : presE g rels ≠ 0) : Calls Try.prog 36 #[.agg #[.int .i64 g, vr], vs, vt] w (HoldsPost g rels sub t w) := by
  obtain ⟨Ar, cr, rfl⟩ := Tab.form hR
  obtain ⟨As, cs, rfl⟩ := Tab.form hS
  obtain ⟨At, ct, rfl⟩ := Tab.form ht
  have hb0 : Below w.heap.size w (w.alloc (.cells #[.int .i64 g, .slice Ar rels.length cr] 40)) := (Below.refl _ _).alloc (Nat.le_refl _) _
  have HB0 := Lib.hid hb0
  have HN1 := Lib.hid (heap_alloc_new w (.cells #[.int .i64 g, .slice Ar rels.length cr] 40))
  have H95 := Lib.hid (pcheck95_any (w.alloc (.cells #[.int .i64 g, .slice Ar rels.length cr] 40)) _ g rels (kept_tab.below hR hb0) hsm)
  have HE : Hid (holdsE g rels sub t = (false, presE g rels)) := Lib.hid (by unfold holdsE; rw [if_pos he])
  have d1 : (presE g rels != 0) = true := by simpa using he
  unfold PresPost1 at H95
  clear hR hS ht hb0 hsm
  generalize presE g rels = x at *
  clear he
  go_enter Try.func36, Try.ntmps36
  go_wp2_with (first
    | ((with_reducible refine wpList_sel 15 ?_); refine wpList_val rfl (r_loadAt 40 (.tmp 3) _ _ rfl rfl (load40 HN1.out)) ?_)
    | (go_at_call 95; (with_reducible refine H95.out.mono ?_); rintro e w1 ⟨rfl, hb⟩; have HB1 := Lib.hid hb; clear hb))
  go_ret2
  exact ⟨ret_bi (by rw [HE.out]) (by rw [HE.out]), HB0.out.trans (HB1.out.mono HB0.out.size)⟩

set_option maxRecDepth 100000 in
set_option maxHeartbeats 4000000 in
theorem holds36_good (w : World) (vr vs vt : Value) (g : Nat) (rels sub : List W) (t : Tb) (hR : Tab w vr rels) (hS : Tab w vs sub) (ht : Tab w vt t) (hsm : ∀ j, (rels.getD j []).length ≤ 100000) (hg16 : g ≤ 16) (he : presE g rels = 0) : Calls Try.prog 36 #[.agg #[.int .i64 (g : Int), vr], vs, vt] w (HoldsPost g rels sub t w) := by
  obtain ⟨Ar, cr, rfl⟩ := Tab.form hR
  obtain ⟨As, cs, rfl⟩ := Tab.form hS
  obtain ⟨At, ct, rfl⟩ := Tab.form ht
  have hb0 : Below w.heap.size w (w.alloc (.cells #[.int .i64 (g : Int), .slice Ar rels.length cr] 40)) := (Below.refl _ _).alloc (Nat.le_refl _) _
  have HB0 := Lib.hid hb0
  have HN1 := Lib.hid (heap_alloc_new w (.cells #[.int .i64 (g : Int), .slice Ar rels.length cr] 40))
  have hlt0 : w.heap.size < (w.alloc (.cells #[.int .i64 (g : Int), .slice Ar rels.length cr] 40)).heap.size := by simp
  have HLT0 := Lib.hid hlt0
  have H95 : Hid (Calls Try.prog 95 #[.agg #[.int .i64 (g : Int), .slice Ar rels.length cr]] (w.alloc (.cells #[.int .i64 (g : Int), .slice Ar rels.length cr] 40)) fun e w' => e = .returned (.int .i64 0) ∧ Below (w.alloc (.cells #[.int .i64 (g : Int), .slice Ar rels.length cr] 40)).heap.size (w.alloc (.cells #[.int .i64 (g : Int), .slice Ar rels.length cr] 40)) w') :=
    Lib.hid ((pcheck95_any (w.alloc (.cells #[.int .i64 (g : Int), .slice Ar rels.length cr] 40)) _ g rels (kept_tab.below hR hb0) hsm).mono fun e w' ⟨h1, h2⟩ => by rw [he] at h1; exact ⟨h1, h2⟩)
  have HE1 : Hid ((sub.any fun w => w.any (letBad g)) = true → holdsE g rels sub t = (false, 2)) := Lib.hid fun h => by unfold holdsE; rw [if_neg (by rw [he]; simp), Int.toNat_natCast, if_pos h]
  have HE2 : Hid ((sub.any fun w => w.any (letBad g)) = false → (check g t).1 ≠ 0 → holdsE g rels sub t = (false, (check g t).1)) := Lib.hid fun h h2 => by unfold holdsE; rw [if_neg (by rw [he]; simp), Int.toNat_natCast, if_neg (by rw [h]; simp), if_pos h2]
  have HE3 : Hid ((sub.any fun w => w.any (letBad g)) = false → (check g t).1 = 0 → holdsE g rels sub t = (holdsB rels sub t, 0)) := Lib.hid fun h h2 => by unfold holdsE; rw [if_neg (by rw [he]; simp), Int.toNat_natCast, if_neg (by rw [h]; simp), if_neg (by rw [h2]; simp)]
  have HRC := Lib.hid hR.cells
  have HSC := Lib.hid hS.cells
  have hrl1 := hR.len_le
  have hsl1 := hS.len_le
  have HRL : Hid (∀ j, j < rels.length → LetsOk g (rels.getD j [])) := Lib.hid fun j hj => by
    obtain ⟨gn, e, -, -, -, h⟩ := presE_good he
    obtain rfl : g = gn := by omega
    exact (h j hj).1
  have hrl0 : (0 : Int) ≤ (rels.length : Int) := Int.natCast_nonneg _
  have htl0 : (0 : Int) ≤ (t.length : Int) := Int.natCast_nonneg _
  have hsl0 : (0 : Int) ≤ (sub.length : Int) := Int.natCast_nonneg _
  have HTT := Lib.hid ht
  have HG16 := Lib.hid hg16
  clear hR hS ht hb0 hsm he hlt0
  go_enter Try.func36, Try.ntmps36
  go_wp2_with (first
    | ((with_reducible refine wpList_sel 15 ?_); refine wpList_val rfl (r_loadAt 40 (.tmp 3) _ _ rfl rfl (load40 HN1.out)) ?_)
    | (go_at_call 95; (with_reducible refine H95.out.mono ?_); rintro e w1 ⟨rfl, hb⟩
       obtain ⟨p0, p1⟩ := cell_of2 ((hb.block _ HLT0.out).trans HN1.out)
       have HB1 := Lib.hid (HB0.out.trans (hb.mono HB0.out.size))
       clear hb))
  clear H95 HN1 HLT0 HB0
  go_loopw [9] (fun i wr => ∃ k : Nat, i = .int .i64 k ∧ k ≤ sub.length ∧ Hid (∀ j, j < k → (sub.getD j []).any (letBad g) = false) ∧ ∃ q, wr = w1.drewN q) (fun i _ => sub.length - (intOf i).toNat)
  case atStart => exact ⟨0, rfl, by omega, Lib.hid fun j hj => absurd hj (by omega), 0, rfl⟩
  case round =>
    obtain ⟨k, rfl, hk, HZ, q, rfl⟩ := hrel
    have hk0 : (0 : Int) ≤ (k : Int) := Int.natCast_nonneg _
    by_cases hlt : k < sub.length
    · have hlt' : (k : Int) < (sub.length : Int) := by omega
      obtain ⟨b, o, rfl, hcc⟩ := HSC.out (by omega)
      obtain ⟨u, hu, hI⟩ := hcc k hlt
      have hu' := (HB1.out.cell (p := ⟨b, o + k, none⟩) (World.block_lt_of_cell? w _ hu)).trans hu
      have HI := Lib.hid (hI.below HB1.out)
      obtain ⟨Au, cu, rfl, -, -, -⟩ := hI.open_
      have H96 : Hid (∀ n, Calls Try.prog 96 #[.int .i64 (g : Int), .slice Au (sub.getD k []).length cu] (w1.drewN n) fun e w' => e = .returned (.bool (!((sub.getD k []).any (letBad g)))) ∧ w1.drewN n = w') := Lib.hid fun n => (letters96_any (w1.drewN n) g _ (sub.getD k []) HG16.out (HI.out.drewN n)).mono fun e w' ⟨h, h'⟩ => ⟨h, h'.symm⟩
      have HN : Hid ((sub.getD k []).any (letBad g) = false → ∀ j, j < k + 1 → (sub.getD j []).any (letBad g) = false) := Lib.hid fun h => all_succ HZ.out h
      have HF : Hid ((sub.getD k []).any (letBad g) = true → holdsE g rels sub t = (false, 2)) := Lib.hid fun h => HE1.out (any_true_ofR (p := fun w => w.any (letBad g)) hlt h)
      clear hcc hu hI HI
      generalize (sub.getD k []).any (letBad g) = lb at *
      generalize (sub.getD k []).length = L at *
      cases lb with
      | true =>
        have HF2 := Lib.hid (HF.out rfl)
        go_wp2_with fail
        go_quiet ((go_at_call 96; exact quiet_add_left (H96.out _)))
        go_wp2_with fail
        go_ret2
        exact ⟨ret_bi (by rw [HF2.out]) (by rw [HF2.out]), below_drewN (below_drewN HB1.out _) _⟩
      | false =>
        have HN2 := Lib.hid (HN.out rfl)
        go_wp2_with fail
        go_quiet ((go_at_call 96; exact quiet_add_left (H96.out _)))
        go_wp2_with fail
        go_roundw
        case rel => exact ⟨k + 1, by go_num, by omega, HN2, (by first | exact ⟨_, rfl⟩ | exact ex_drewN)⟩
        case measure => simp [intOf]; omega
    · obtain rfl : k = sub.length := by omega
      have hs := any_false_ofR (p := fun w => w.any (letBad g)) HZ.out
      have HSL := Lib.hid (subs_good hs)
      have HE2' := Lib.hid (HE2.out hs)
      have HE3' := Lib.hid (HE3.out hs)
      have H44 : Hid (∀ n, Calls Try.prog 44 #[.int .i64 (g : Int), .slice At t.length ct] (w1.drewN n) fun e w' => (∃ y, e = .returned (.tuple #[.int .i64 (check g t).1, .int .i64 y])) ∧ ∃ q, w' = (w1.drewN n).drewN q) := Lib.hid fun n => (check44_any (w1.drewN n) _ _ t (kept_tab.below HTT.out (below_drewN HB1.out n))).mono fun e w' ⟨a, b⟩ => ⟨⟨_, a⟩, b⟩
      have H46 : Hid (∀ n, Calls Try.prog 46 #[.slice At t.length ct] (w1.drewN n) fun e w' => e = .returned (.bool (complete t)) ∧ ∃ q, w' = (w1.drewN n).drewN q) := Lib.hid fun n => complete46_any (w1.drewN n) _ t (kept_tab.below HTT.out (below_drewN HB1.out n))
      clear hs HE1 HE2 HE3
      by_cases hc : (check g t).1 = 0
      · have HE := Lib.hid (HE3'.out hc)
        rw [hc] at H44
        have HG := Lib.hid (check_good hc).2.1
        rw [Int.toNat_natCast] at HG
        clear hc HE2' HE3'
        cases hp : complete t with
        | false =>
          have HP := Lib.hid (holds_part (rels := rels) (sub := sub) hp)
          rw [hp] at H46
          clear hp
          go_wp2_with (first
            | (go_at_call 44; (with_reducible refine (H44.out _).mono ?_); rintro e w' ⟨⟨y, rfl⟩, q1, rfl⟩)
            | (go_at_call 46; (refine (H46.out _).mono ?_); rintro e w' ⟨rfl, q2, rfl⟩))
          go_ret2
          exact ⟨ret_bi (by rw [HE.out, HP.out]) (by rw [HE.out]), below_drewN HB1.out _⟩
        | true =>
          have HCP := Lib.hid hp
          have HPOS : Hid (∀ r, r < t.length → ∀ c, c < 2 * g → 0 ≤ t.at r c) := Lib.hid fun r hr c hc => by
            have h1 := complete_pos hp r hr c (by rw [HG.out.len r hr]; exact hc)
            have h2 := HG.out.bd r hr c hc
            have h3 : t.at r c ≠ -1 := h1
            omega
          rw [hp] at H46
          have hn2 := HG.out.n2
          clear hp
          go_wp2_with (first
            | (go_at_call 44; (with_reducible refine (H44.out _).mono ?_); rintro e w' ⟨⟨y, rfl⟩, q1, rfl⟩)
            | (go_at_call 46; (refine (H46.out _).mono ?_); rintro e w' ⟨rfl, q2, rfl⟩))
          have HQ0 : Hid (∃ q', (w1.drewN (q + q1 + q2)) = w1.drewN q') := Lib.hid ⟨_, rfl⟩
          go_loopw [12] (fun i wr => ∃ r : Nat, i = .int .i64 r ∧ r ≤ t.length ∧ Hid (∀ j, j < r → staysB t (j : Int) rels = true) ∧ ∃ q, wr = w1.drewN q) (fun i _ => t.length - (intOf i).toNat)
          case atStart => exact ⟨0, rfl, by omega, Lib.hid fun j hj => absurd hj (by omega), (by first | exact ⟨_, rfl⟩ | exact ex_drewN)⟩
          case round =>
            clear HQ0
            rename Nat => qq
            obtain ⟨r, rfl, hr, HZR, q, rfl⟩ := hrel
            have hr0 : (0 : Int) ≤ (r : Int) := Int.natCast_nonneg _
            by_cases hrl : r < t.length
            · have hrl' : (r : Int) < (t.length : Int) := by omega
              go_wp2_with fail
              go_loopw [13] (fun i wr => ∃ k : Nat, i = .int .i64 k ∧ k ≤ rels.length ∧ Hid (∀ j, j < k → leads t r (rels.getD j []) = r) ∧ ∃ q, wr = w1.drewN q) (fun i _ => rels.length - (intOf i).toNat)
              case atStart => exact ⟨0, rfl, by omega, Lib.hid fun j hj => absurd hj (by omega), (by first | exact ⟨_, rfl⟩ | exact ex_drewN)⟩
              case round =>
                obtain ⟨k, rfl, hk, HZK, q5, rfl⟩ := hrel
                have hk0 : (0 : Int) ≤ (k : Int) := Int.natCast_nonneg _
                by_cases hlt : k < rels.length
                · have hlt' : (k : Int) < (rels.length : Int) := by omega
                  obtain ⟨b, o, rfl, hcc⟩ := HRC.out (by omega)
                  obtain ⟨u, hu, hI⟩ := hcc k hlt
                  have hu' := (HB1.out.cell (p := ⟨b, o + k, none⟩) (World.block_lt_of_cell? w _ hu)).trans hu
                  have HI := Lib.hid (hI.below HB1.out)
                  obtain ⟨Au, cu, rfl, -, -, -⟩ := hI.open_
                  have h97 := leads97_any (w1.drewN q5) (.slice At t.length ct) (.slice Au (rels.getD k []).length cu) g t r (rels.getD k []) (kept_tab.below HTT.out (below_drewN HB1.out q5)) (HI.out.drewN q5) HG.out HPOS.out (HRL.out k hlt) hrl
                  have HN : Hid (leads t r (rels.getD k []) = r → ∀ j, j < k + 1 → leads t r (rels.getD j []) = r) := Lib.hid fun h => all_succ HZK.out h
                  have HF : Hid (leads t r (rels.getD k []) ≠ r → holdsB rels sub t = false) := Lib.hid fun h => holds_rel hrl hlt h
                  have H97 := Lib.hid h97
                  clear hcc hu hI h97 HI
                  generalize rels.getD k [] = ws at *
                  generalize leads t r ws = l at *
                  by_cases hz : l = r
                  · have d1 : (l != (r : Int)) = false := by simpa using hz
                    have HN2 := Lib.hid (HN.out hz)
                    clear hz HN HF
                    go_wp2_with (go_at_call 97; (with_reducible refine H97.out.mono ?_); rintro e w' ⟨rfl, q6, rfl⟩)
                    go_roundw
                    case rel => exact ⟨k + 1, by go_num, by omega, HN2, (by first | exact ⟨_, rfl⟩ | exact ex_drewN)⟩
                    case measure => simp [intOf]; omega
                  · have d1 : (l != (r : Int)) = true := by simpa using hz
                    have HF2 := Lib.hid (HF.out hz)
                    clear hz HN HF
                    go_wp2_with (go_at_call 97; (with_reducible refine H97.out.mono ?_); rintro e w' ⟨rfl, q6, rfl⟩)
                    go_ret2
                    exact ⟨ret_bi (by rw [HE.out, HF2.out]) (by rw [HE.out]), below_drewN HB1.out _⟩
                · obtain rfl : k = rels.length := by omega
                  go_wp2_with fail
                  go_roundw
                  case rel => exact ⟨r + 1, by go_num, by omega, Lib.hid (all_succ HZR.out (staysB_true HZK.out)), (by first | exact ⟨_, rfl⟩ | exact ex_drewN)⟩
                  case measure => simp [intOf]; omega
            · obtain rfl : r = t.length := by omega
              go_wp2_with fail
              go_loopw [14] (fun i wr => ∃ k : Nat, i = .int .i64 k ∧ k ≤ sub.length ∧ Hid (∀ j, j < k → leads t 0 (sub.getD j []) = 0) ∧ ∃ q, wr = w1.drewN q) (fun i _ => sub.length - (intOf i).toNat)
              case atStart => exact ⟨0, rfl, by omega, Lib.hid fun j hj => absurd hj (by omega), (by first | exact ⟨_, rfl⟩ | exact ex_drewN)⟩
              case round =>
                clear hlt hk0
                obtain ⟨k, rfl, hk, HZK, q5, rfl⟩ := hrel
                have hk0 : (0 : Int) ≤ (k : Int) := Int.natCast_nonneg _
                by_cases hlt : k < sub.length
                · have hlt' : (k : Int) < (sub.length : Int) := by omega
                  obtain ⟨b, o, rfl, hcc⟩ := HSC.out (by omega)
                  obtain ⟨u, hu, hI⟩ := hcc k hlt
                  have hu' := (HB1.out.cell (p := ⟨b, o + k, none⟩) (World.block_lt_of_cell? w _ hu)).trans hu
                  have HI := Lib.hid (hI.below HB1.out)
                  obtain ⟨Au, cu, rfl, -, -, -⟩ := hI.open_
                  have h97 : Calls Try.prog 97 #[.slice At t.length ct, .int .i64 0, .slice Au (sub.getD k []).length cu] (w1.drewN q5) fun e w' => e = .returned (.int .i64 (leads t 0 (sub.getD k []))) ∧ ∃ q, w' = (w1.drewN q5).drewN q :=
                    leads97_any (w1.drewN q5) (.slice At t.length ct) (.slice Au (sub.getD k []).length cu) g t 0 (sub.getD k []) (kept_tab.below HTT.out (below_drewN HB1.out q5)) (HI.out.drewN q5) HG.out HPOS.out (HSL.out k hlt) (by have := HG.out.n1; omega)
                  have HN : Hid (leads t 0 (sub.getD k []) = 0 → ∀ j, j < k + 1 → leads t 0 (sub.getD j []) = 0) := Lib.hid fun h => all_succ HZK.out h
                  have HF : Hid (leads t 0 (sub.getD k []) ≠ 0 → holdsB rels sub t = false) := Lib.hid fun h => holds_sub hlt h
                  have H97 := Lib.hid h97
                  clear hcc hu hI h97 HI
                  generalize sub.getD k [] = ws at *
                  generalize leads t 0 ws = l at *
                  by_cases hz : l = 0
                  · have d1 : (l != 0) = false := by simpa using hz
                    have HN2 := Lib.hid (HN.out hz)
                    clear hz HN HF
                    go_wp2_with (go_at_call 97; (with_reducible refine H97.out.mono ?_); rintro e w' ⟨rfl, q6, rfl⟩)
                    go_roundw
                    case rel => exact ⟨k + 1, by go_num, by omega, HN2, (by first | exact ⟨_, rfl⟩ | exact ex_drewN)⟩
                    case measure => simp [intOf]; omega
                  · have d1 : (l != 0) = true := by simpa using hz
                    have HF2 := Lib.hid (HF.out hz)
                    clear hz HN HF
                    go_wp2_with (go_at_call 97; (with_reducible refine H97.out.mono ?_); rintro e w' ⟨rfl, q6, rfl⟩)
                    go_ret2
                    exact ⟨ret_bi (by rw [HE.out, HF2.out]) (by rw [HE.out]), below_drewN HB1.out _⟩
                · obtain rfl : k = sub.length := by omega
                  go_wp2_with fail
                  go_ret2
                  exact ⟨ret_bi (by rw [HE.out, holds_true HCP.out HZK.out HZR.out]) (by rw [HE.out]), below_drewN HB1.out _⟩
      · have HE := Lib.hid (HE2'.out hc)
        have d1 : ((check g t).1 != 0) = true := by simpa using hc
        clear HE2' HE3'
        generalize (check g t).1 = x at *
        clear hc
        go_wp2_with (go_at_call 44; (with_reducible refine (H44.out _).mono ?_); rintro e w' ⟨⟨y, rfl⟩, q1, rfl⟩)
        go_ret2
        exact ⟨ret_bi (by rw [HE.out]) (by rw [HE.out]), below_drewN HB1.out _⟩
theorem holds36_any (w : World) (vr vs vt : Value) (g : Int) (rels sub : List W) (t : Tb) (hR : Tab w vr rels) (hS : Tab w vs sub) (ht : Tab w vt t) (hsm : ∀ j, (rels.getD j []).length ≤ 100000) : Calls Try.prog 36 #[.agg #[.int .i64 g, vr], vs, vt] w (HoldsPost g rels sub t w) := by
  by_cases he : presE g rels = 0
  · obtain ⟨gn, rfl, h1, h2, -, -⟩ := presE_good he
    exact holds36_good w vr vs vt gn rels sub t hR hS ht hsm h2 he
  · exact holds36_pres w vr vs vt g rels sub t hR hS ht hsm he
end Go.Proofs
namespace Go.Proofs
open Go.RowKit Go.Shelf Go.Proofs.Ct Go.Maps

theorem snoc_of {a b : List Int} {x : Int} (h1 : b.length = a.length + 1) (h2 : b.getD a.length 0 = x) (h3 : ∀ j, j < a.length → a.getD j 0 = b.getD j 0) : b = a ++ [x] := by
  refine snoc_iff.2 ⟨h1, h2, getD_ext (d := 0) (by simp; omega) fun k hk => ?_⟩
  rw [h3 k hk]
  simp [List.getD_eq_getElem?_getD, hk]

set_option maxRecDepth 100000 in
set_option maxHeartbeats 1000000 in
theorem follows144_any (w : World) (vr : Value) (A0 A1 : Option Addr) (n0 c0 n1 c1 : Nat) (G m : Int) (R : List (List Int)) (r to : Nat) (x : Int) (hR : Tab w vr R) (hr : r < R.length) (hto : to < R.length) (hb : ∀ j, (R.getD j []).length ≤ 100000) :
    Calls Try.prog 144 #[.agg #[.int .i64 G, .slice A0 n0 c0, vr, .slice A1 n1 c1, .int .i64 m], .int .i64 (r : Int), .int .i64 x, .int .i64 (to : Int)] w fun e w' => e = .returned (.bool (decide (R.getD to [] = R.getD r [] ++ [x]))) ∧ Below w.heap.size w w' := by
  obtain ⟨Ar, cr, rfl, h1, h2, h3⟩ := hR.open_
  obtain ⟨br, or', rfl, h4⟩ := h3 (by omega)
  obtain ⟨ua, hua, hIa⟩ := h4 r hr
  obtain ⟨ub, hub, hIb⟩ := h4 to hto
  obtain ⟨Aa, ca, rfl, ha1, ha2, hac⟩ := hIa.open_
  obtain ⟨Ab, cb, rfl, hb1, hb2, hbc⟩ := hIb.open_
  have hbel : Below w.heap.size w (w.alloc (.cells #[.int .i64 G, .slice A0 n0 c0, .slice (some ⟨br, or', none⟩) R.length cr, .slice A1 n1 c1, .int .i64 m] 99)) := (Below.refl _ _).alloc (Nat.le_refl _) _
  have hblt : br < w.heap.size := World.block_lt_of_cell? w _ hua
  have hua' := (hbel.cell (p := ⟨br, or' + r, none⟩) hblt).trans hua
  have hub' := (hbel.cell (p := ⟨br, or' + to, none⟩) hblt).trans hub
  have HB := Lib.hid hbel
  have HSN := Lib.hid (@snoc_of (R.getD r []) (R.getD to []) x)
  have HSI := Lib.hid (@snoc_iff (R.getD r []) (R.getD to []) x)
  have hbr := hb r
  have hbt := hb to
  have hr0 : (0 : Int) ≤ (r : Int) := Int.natCast_nonneg _
  have hr1 : (r : Int) < (R.length : Int) := by omega
  have ht0 : (0 : Int) ≤ (to : Int) := Int.natCast_nonneg _
  have ht1 : (to : Int) < (R.length : Int) := by omega
  clear h3 h4 hR hIa hIb hbel hb
  generalize R.getD r [] = a at *
  generalize R.getD to [] = b at *
  have ha0 : (0 : Int) ≤ (a.length : Int) := Int.natCast_nonneg _
  have ha3 : (a.length : Int) ≤ 100000 := by omega
  have hb3 : (b.length : Int) ≤ 100000 := by omega
  have HAC := Lib.hid hac
  have HBC := Lib.hid hbc
  clear hac hbc
  by_cases hl : b.length = a.length + 1
  · obtain ⟨bb, ob, rfl, hbc'⟩ := HBC.out (by omega)
    have hcx := hbc' a.length (by omega)
    have hcx' := (HB.out.cell (p := ⟨bb, ob + a.length, none⟩) (World.block_lt_of_cell? w _ hcx)).trans hcx
    have hlI : ((b.length : Int) != (a.length : Int) + 1) = false := by simp; omega
    have hlI2 : (a.length : Int) < (b.length : Int) := by omega
    have HL := Lib.hid hl
    have HBC' := Lib.hid hbc'
    clear hl hbc' hcx
    by_cases hy : b.getD a.length 0 = x
    · have hyI : (b.getD a.length 0 != x) = false := by simpa using hy
      have HY := Lib.hid hy
      clear hy
      generalize b.getD a.length 0 = y at *
      generalize hres : decide (b = a ++ [x]) = res at *
      have HRES := Lib.hid hres
      clear hres
      go_enter Try.func144, Try.ntmps144
      go_wp2_with fail
      go_quiet (fail)
      go_wp2_with fail
      go_loopw [11] (fun i wr => ∃ k : Nat, k ≤ a.length ∧ i = .int .i64 k ∧ Hid (∀ j, j < k → a.getD j 0 = b.getD j 0) ∧ ∃ q, wr = (w.alloc (.cells #[.int .i64 G, .slice A0 n0 c0, .slice (some ⟨br, or', none⟩) R.length cr, .slice A1 n1 c1, .int .i64 m] 99)).drewN q) (fun i _ => a.length - (intOf i).toNat)
      case atStart => exact ⟨0, Nat.zero_le _, rfl, Lib.hid fun j hj => absurd hj (by omega), (by first | exact ⟨_, rfl⟩ | exact ex_drewN)⟩
      case round =>
        obtain ⟨k, hk, rfl, HZ, q, rfl⟩ := hrel
        have hk0 : (0 : Int) ≤ (k : Int) := Int.natCast_nonneg _
        by_cases hlt : k < a.length
        · obtain ⟨ba, oa, rfl, hac'⟩ := HAC.out (by omega)
          have hx1 := hac' k hlt
          have hx2 := HBC'.out k (by omega)
          have hx1' := (HB.out.cell (p := ⟨ba, oa + k, none⟩) (World.block_lt_of_cell? w _ hx1)).trans hx1
          have hx2' := (HB.out.cell (p := ⟨bb, ob + k, none⟩) (World.block_lt_of_cell? w _ hx2)).trans hx2
          have hka : (k : Int) < (a.length : Int) := by omega
          have hkb : (k : Int) < (b.length : Int) := by omega
          clear hac' hx1 hx2
          have HK : Hid (a.getD k 0 = b.getD k 0 → ∀ j, j < k + 1 → a.getD j 0 = b.getD j 0) := Lib.hid fun h => all_succ HZ.out h
          have HKN : Hid (a.getD k 0 ≠ b.getD k 0 → res = false) := Lib.hid fun h => by
            rw [← HRES.out, decide_eq_false_iff_not]
            intro e
            obtain ⟨-, -, h3⟩ := HSI.out.1 e
            apply h
            rw [h3]
            simp [List.getD_eq_getElem?_getD, hlt]
          generalize a.getD k 0 = s at *
          generalize b.getD k 0 = t at *
          by_cases hst : s = t
          · have d5 : (s != t) = false := by simpa using hst
            have HK2 := Lib.hid (HK.out hst)
            clear hst
            go_wp2_with fail
            go_quiet (fail)
            go_wp2_with fail
            go_roundw
            case rel => exact ⟨k + 1, by omega, by go_num, HK2, (by first | exact ⟨_, rfl⟩ | exact ex_drewN)⟩
            case measure => simp [intOf]; omega
          · have d5 : (s != t) = true := by simpa using hst
            have HK2 := Lib.hid (HKN.out hst)
            clear hst
            go_wp2_with fail
            go_quiet (fail)
            go_wp2_with fail
            go_ret
            exact ⟨ret_bool HK2.out.symm, below_drewN (below_drewN HB.out _) _⟩
        · obtain rfl : k = a.length := by omega
          go_wp2_with fail
          go_ret
          exact ⟨ret_bool (by rw [← HRES.out, decide_eq_true]; exact HSN.out HL.out HY.out HZ.out), below_drewN HB.out _⟩
    · have hyI : (b.getD a.length 0 != x) = true := by simpa using hy
      have HDEC : Hid (decide (b = a ++ [x]) = false) := Lib.hid (decide_eq_false fun h => hy (HSI.out.1 h).2.1)
      clear hy
      generalize b.getD a.length 0 = y at *
      generalize decide (b = a ++ [x]) = res2 at *
      go_enter Try.func144, Try.ntmps144
      go_wp2_with fail
      go_quiet (fail)
      go_wp2_with fail
      go_ret
      exact ⟨ret_bool HDEC.out.symm, below_drewN HB.out _⟩
  · have hlI : ((b.length : Int) != (a.length : Int) + 1) = true := by simp; omega
    have HDEC : Hid (decide (b = a ++ [x]) = false) := Lib.hid (decide_eq_false fun h => hl (HSI.out.1 h).1)
    clear hl
    generalize decide (b = a ++ [x]) = res2 at *
    go_enter Try.func144, Try.ntmps144
    go_wp2_with fail
    go_quiet (fail)
    go_wp2_with fail
    go_ret
    exact ⟨ret_bool HDEC.out.symm, below_drewN HB.out _⟩
end Go.Proofs
