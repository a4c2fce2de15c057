/- coset.Holds; The reference's system in memory: its box, its rows of numbers; The reference's system under construction; The reference's rewrite of a system; rewrite.Present: what it answers; structs of type 40; the relators under way. -/
import Derived.Test.YtmpnengjboabcaaGreatRgCS11
import Derived.Test.YtmpnengjboabcaaGreatRgCS10
namespace Go.Proofs
open Go.RowKit Go.Shelf Go.Proofs.Ct Go.Maps
theorem LAt.cells {α : Type} {R : World → Value → α → Prop} {d : α} {w : World} {A : Option Addr} {n c : Nat} {xs : List α} (h : LAt R d w (.slice A n c) xs) : 0 < xs.length → ∃ b off, A = some ⟨b, off, none⟩ ∧ ∀ k, k < xs.length → ∃ u, w.cell? ⟨b, off + k, none⟩ = some u ∧ R w u (xs.getD k d) := by
  obtain ⟨A', c', e, -, -, h3⟩ := h.open_
  cases e
  exact h3
theorem LAt.len_le {α : Type} {R : World → Value → α → Prop} {d : α} {w : World} {v : Value} {xs : List α} (h : LAt R d w v xs) : (xs.length : Int) ≤ 9223372036854775807 := by
  obtain ⟨A', c', e, h1, h2, -⟩ := h.open_
  omega
theorem ret_bi {k : IntKind} {a c : Bool} {b d : Int} (h : a = c) (h' : b = d) : Ending.returned (.tuple #[.bool a, .int k b]) = Ending.returned (.tuple #[.bool c, .int k d]) := by rw [h, h']
set_option maxRecDepth 100000 in
set_option maxHeartbeats 2000000 in
theorem holds35_pres (w : World) (vr vs vt : Value) (g : Int) (rels sub : List W) (t : Tb) (hR : Tab w vr rels) (hS : Tab w vs sub) (ht : Tab w vt t) (he : presE g rels ≠ 0) : Calls Tryz.prog 40 #[.agg #[.int .i64 g, vr], vs, vt] w (HoldsPost g rels sub t w) := by
  obtain ⟨Ar, cr, rfl⟩ := Tab.form hR
  obtain ⟨As, cs, rfl⟩ := Tab.form hS
  obtain ⟨At, ct, rfl⟩ := Tab.form ht
  have H78 : Hid (∀ W, Tab W (.slice Ar rels.length cr) rels → Calls Tryz.prog 32 #[.agg #[.int .i64 g, .slice Ar rels.length cr]] W fun e w' => (∃ y, e = .returned (.tuple #[.int .i64 (presE g rels), .int .i64 y])) ∧ Below W.heap.size W w') := Lib.hid fun W h => pcheck78_any W _ _ rels h
  have HE : Hid (holdsE g rels sub t = (false, presE g rels)) := Lib.hid (by unfold holdsE; rw [if_pos he])
  have d1 : (presE g rels != 0) = true := by simpa using he
  generalize presE g rels = x at *
  clear he
  have HPB : Hid (∀ w0 : World, w0 = (w.alloc (.cells #[.int .i64 g, .slice Ar rels.length cr] 26)).alloc (.cells #[.slice At t.length ct] 29) → Below w.heap.size w w0 ∧ w0.heap.size = w.heap.size + 2 ∧ w0.heap[w.heap.size]? = some (.cells #[.int .i64 g, .slice Ar rels.length cr] 26 (0, 0)) ∧ w0.heap[w.heap.size + 1]? = some (.cells #[.slice At t.length ct] 29 (0, 0))) := Lib.hid fun w0 h => by
    subst h
    refine ⟨((Below.refl _ _).alloc (Nat.le_refl _) _).alloc (by simp) _, by simp, ?_, ?_⟩
    · exact (Below.heap_alloc (w.alloc _) _ w.heap.size (by simp)).trans (heap_alloc_new w _)
    · have := heap_alloc_new (w.alloc (.cells #[.int .i64 g, .slice Ar rels.length cr] 26)) (.cells #[.slice At t.length ct] 29); rwa [World.size_alloc] at this
  have HRR := Lib.hid hR
  have HSS := Lib.hid hS
  have HTT := Lib.hid ht
  clear hR hS ht
  go_enter Tryz.func40, Tryz.ntmps40
  go_wp2_with fail
  generalize hw0 : (w.alloc (.cells #[.int .i64 g, .slice Ar rels.length cr] 26)).alloc (.cells #[.slice At t.length ct] 29) = w0 at *
  obtain ⟨hb0, hsz, hbp, hbt⟩ := HPB.out w0 rfl
  have HB0 := Lib.hid hb0
  have HSZ := Lib.hid hsz
  have HBP := Lib.hid hbp
  have HBX : Hid (∀ W, Below w0.heap.size w0 W → W.cell? ⟨w.heap.size, 0, none⟩ = some (.int .i64 g) ∧ W.cell? ⟨w.heap.size, 1, none⟩ = some (.slice Ar rels.length cr) ∧ W.cell? ⟨w.heap.size + 1, 0, none⟩ = some (.slice At t.length ct)) := Lib.hid fun W h => by
    obtain ⟨a, b⟩ := cell_of2 ((h.block _ (Array.getElem?_eq_some_iff.1 hbp).1).trans hbp)
    exact ⟨a, b, (cell_of1 ((h.block _ (Array.getElem?_eq_some_iff.1 hbt).1).trans hbt)).1⟩
  have HB00 := Lib.hid (Below.refl w0.heap.size w0)
  clear hw0 hb0 hsz hbp hbt HPB
  go_wp2_with (first
    | ((with_reducible refine wpList_sel 19 ?_); refine wpList_val rfl (r_loadAt 26 (.tmp 3) _ _ rfl rfl (load40 HBP.out)) ?_)
    | (go_at_call 32; (refine (H78.out w0 (kept_tab.below HRR.out HB0.out)).mono ?_); rintro e w1 ⟨⟨y, rfl⟩, hb⟩
       have HB1 := Lib.hid hb
       obtain ⟨p1, q1, t1⟩ := HBX.out _ hb
       clear hb))
  go_ret2
  exact ⟨ret_bi (by rw [HE.out]) (by rw [HE.out]), HB0.out.trans (HB1.out.mono HB0.out.size)⟩
set_option maxRecDepth 100000 in
set_option maxHeartbeats 2000000 in
theorem holds35_sub (w : World) (vr vs vt : Value) (g : Nat) (rels sub : List W) (t : Tb) (hR : Tab w vr rels) (hS : Tab w vs sub) (ht : Tab w vt t) (hg16 : g ≤ 16) (he : presE g rels = 0) (hs : (sub.any fun w => w.any (letBad g)) = true) : Calls Tryz.prog 40 #[.agg #[.int .i64 (g : Int), vr], vs, vt] w (HoldsPost g rels sub t w) := by
  obtain ⟨Ar, cr, rfl⟩ := Tab.form hR
  obtain ⟨As, cs, rfl⟩ := Tab.form hS
  obtain ⟨At, ct, rfl⟩ := Tab.form ht
  have H78 : Hid (∀ W, Tab W (.slice Ar rels.length cr) rels → Calls Tryz.prog 32 #[.agg #[.int .i64 (g : Int), .slice Ar rels.length cr]] W fun e w' => (∃ y, e = .returned (.tuple #[.int .i64 (presE (g : Int) rels), .int .i64 y])) ∧ Below W.heap.size W w') := Lib.hid fun W h => pcheck78_any W _ _ rels h
  have H81 : Hid (∀ (W : World) (B : Nat), W.cell? ⟨B, 0, none⟩ = some (.int .i64 (g : Int)) → Tab W (.slice As sub.length cs) sub → Calls Tryz.prog 33 #[.slice As sub.length cs, .func (.func 67) #[] #[.pointer (some ⟨B, 0, none⟩)]] W fun e w' => e = .returned (.bool (sub.any fun w => w.any (letBad g))) ∧ Below W.heap.size W w') := Lib.hid fun W B hc h =>
    has81_any 67 _ (fun w => w.any (letBad g)) W eg91 _ sub h fun W' u k hb hk hI => neg91_any W' B g u _ hg16 ((hb.cell (p := ⟨B, 0, none⟩) (World.block_lt_of_cell? _ _ hc)).trans hc) hI
  rw [he] at H78
  have HE : Hid (holdsE g rels sub t = (false, 2)) := Lib.hid (by unfold holdsE; rw [if_neg (by rw [he]; simp), Int.toNat_natCast, if_pos hs])
  rw [hs] at H81
  clear he hs hg16
  have HPB : Hid (∀ w0 : World, w0 = (w.alloc (.cells #[.int .i64 (g : Int), .slice Ar rels.length cr] 26)).alloc (.cells #[.slice At t.length ct] 29) → Below w.heap.size w w0 ∧ w0.heap.size = w.heap.size + 2 ∧ w0.heap[w.heap.size]? = some (.cells #[.int .i64 (g : Int), .slice Ar rels.length cr] 26 (0, 0)) ∧ w0.heap[w.heap.size + 1]? = some (.cells #[.slice At t.length ct] 29 (0, 0))) := Lib.hid fun w0 h => by
    subst h
    refine ⟨((Below.refl _ _).alloc (Nat.le_refl _) _).alloc (by simp) _, by simp, ?_, ?_⟩
    · exact (Below.heap_alloc (w.alloc _) _ w.heap.size (by simp)).trans (heap_alloc_new w _)
    · have := heap_alloc_new (w.alloc (.cells #[.int .i64 (g : Int), .slice Ar rels.length cr] 26)) (.cells #[.slice At t.length ct] 29); rwa [World.size_alloc] at this
  have HRR := Lib.hid hR
  have HSS := Lib.hid hS
  have HTT := Lib.hid ht
  clear hR hS ht
  go_enter Tryz.func40, Tryz.ntmps40
  go_wp2_with fail
  generalize hw0 : (w.alloc (.cells #[.int .i64 (g : Int), .slice Ar rels.length cr] 26)).alloc (.cells #[.slice At t.length ct] 29) = w0 at *
  obtain ⟨hb0, hsz, hbp, hbt⟩ := HPB.out w0 rfl
  have HB0 := Lib.hid hb0
  have HSZ := Lib.hid hsz
  have HBP := Lib.hid hbp
  have HBX : Hid (∀ W, Below w0.heap.size w0 W → W.cell? ⟨w.heap.size, 0, none⟩ = some (.int .i64 (g : Int)) ∧ W.cell? ⟨w.heap.size, 1, none⟩ = some (.slice Ar rels.length cr) ∧ W.cell? ⟨w.heap.size + 1, 0, none⟩ = some (.slice At t.length ct)) := Lib.hid fun W h => by
    obtain ⟨a, b⟩ := cell_of2 ((h.block _ (Array.getElem?_eq_some_iff.1 hbp).1).trans hbp)
    exact ⟨a, b, (cell_of1 ((h.block _ (Array.getElem?_eq_some_iff.1 hbt).1).trans hbt)).1⟩
  have HB00 := Lib.hid (Below.refl w0.heap.size w0)
  clear hw0 hb0 hsz hbp hbt HPB
  go_wp2_with (first
    | ((with_reducible refine wpList_sel 19 ?_); refine wpList_val rfl (r_loadAt 26 (.tmp 3) _ _ rfl rfl (load40 HBP.out)) ?_)
    | (go_at_call 32; (refine (H78.out w0 (kept_tab.below HRR.out HB0.out)).mono ?_); rintro e w1 ⟨⟨y, rfl⟩, hb⟩
       have HB1 := Lib.hid hb
       obtain ⟨p1, q1, t1⟩ := HBX.out _ hb
       clear hb)
    | (go_at_call 33; (refine (H81.out _ _ (HBX.out _ HB1.out).1 (kept_tab.below HSS.out (HB0.out.trans (HB1.out.mono HB0.out.size)))).mono ?_); rintro e w2 ⟨rfl, hb⟩
       have HB2 := Lib.hid (HB1.out.trans (hb.mono HB1.out.size))
       obtain ⟨p2, q2, t2⟩ := HBX.out _ HB2.out
       clear hb p1 q1 t1))
  go_ret2
  exact ⟨ret_bi (by rw [HE.out]) (by rw [HE.out]), HB0.out.trans (HB2.out.mono HB0.out.size)⟩
set_option maxRecDepth 100000 in
set_option maxHeartbeats 2000000 in
theorem holds35_chk (w : World) (vr vs vt : Value) (g : Nat) (rels sub : List W) (t : Tb) (hR : Tab w vr rels) (hS : Tab w vs sub) (ht : Tab w vt t) (hg16 : g ≤ 16) (he : presE g rels = 0) (hs : (sub.any fun w => w.any (letBad g)) = false) (hc : (check g t).1 ≠ 0) : Calls Tryz.prog 40 #[.agg #[.int .i64 (g : Int), vr], vs, vt] w (HoldsPost g rels sub t w) := by
  obtain ⟨Ar, cr, rfl⟩ := Tab.form hR
  obtain ⟨As, cs, rfl⟩ := Tab.form hS
  obtain ⟨At, ct, rfl⟩ := Tab.form ht
  have H78 : Hid (∀ W, Tab W (.slice Ar rels.length cr) rels → Calls Tryz.prog 32 #[.agg #[.int .i64 (g : Int), .slice Ar rels.length cr]] W fun e w' => (∃ y, e = .returned (.tuple #[.int .i64 (presE (g : Int) rels), .int .i64 y])) ∧ Below W.heap.size W w') := Lib.hid fun W h => pcheck78_any W _ _ rels h
  have H81 : Hid (∀ (W : World) (B : Nat), W.cell? ⟨B, 0, none⟩ = some (.int .i64 (g : Int)) → Tab W (.slice As sub.length cs) sub → Calls Tryz.prog 33 #[.slice As sub.length cs, .func (.func 67) #[] #[.pointer (some ⟨B, 0, none⟩)]] W fun e w' => e = .returned (.bool (sub.any fun w => w.any (letBad g))) ∧ Below W.heap.size W w') := Lib.hid fun W B hc h =>
    has81_any 67 _ (fun w => w.any (letBad g)) W eg91 _ sub h fun W' u k hb hk hI => neg91_any W' B g u _ hg16 ((hb.cell (p := ⟨B, 0, none⟩) (World.block_lt_of_cell? _ _ hc)).trans hc) hI
  have H43 : Hid (∀ W, Tab W (.slice At t.length ct) t → Calls Tryz.prog 29 #[.int .i64 (g : Int), .slice At t.length ct] W fun e w' => (∃ y, e = .returned (.tuple #[.int .i64 (check g t).1, .int .i64 y])) ∧ Below W.heap.size W w') := Lib.hid fun W h => (check43_any W _ _ t h).mono fun e w' ⟨a, b⟩ => ⟨⟨_, a⟩, b⟩
  rw [he] at H78
  have HE : Hid (holdsE g rels sub t = (false, (check g t).1)) := Lib.hid (by unfold holdsE; rw [if_neg (by rw [he]; simp), Int.toNat_natCast, if_neg (by rw [hs]; simp), if_pos hc])
  rw [hs] at H81
  have d1 : ((check g t).1 != 0) = true := by simpa using hc
  generalize (check g t).1 = x at *
  clear he hs hg16 hc
  have HPB : Hid (∀ w0 : World, w0 = (w.alloc (.cells #[.int .i64 (g : Int), .slice Ar rels.length cr] 26)).alloc (.cells #[.slice At t.length ct] 29) → Below w.heap.size w w0 ∧ w0.heap.size = w.heap.size + 2 ∧ w0.heap[w.heap.size]? = some (.cells #[.int .i64 (g : Int), .slice Ar rels.length cr] 26 (0, 0)) ∧ w0.heap[w.heap.size + 1]? = some (.cells #[.slice At t.length ct] 29 (0, 0))) := Lib.hid fun w0 h => by
    subst h
    refine ⟨((Below.refl _ _).alloc (Nat.le_refl _) _).alloc (by simp) _, by simp, ?_, ?_⟩
    · exact (Below.heap_alloc (w.alloc _) _ w.heap.size (by simp)).trans (heap_alloc_new w _)
    · have := heap_alloc_new (w.alloc (.cells #[.int .i64 (g : Int), .slice Ar rels.length cr] 26)) (.cells #[.slice At t.length ct] 29); rwa [World.size_alloc] at this
  have HRR := Lib.hid hR
  have HSS := Lib.hid hS
  have HTT := Lib.hid ht
  clear hR hS ht
  go_enter Tryz.func40, Tryz.ntmps40
  go_wp2_with fail
  generalize hw0 : (w.alloc (.cells #[.int .i64 (g : Int), .slice Ar rels.length cr] 26)).alloc (.cells #[.slice At t.length ct] 29) = w0 at *
  obtain ⟨hb0, hsz, hbp, hbt⟩ := HPB.out w0 rfl
  have HB0 := Lib.hid hb0
  have HSZ := Lib.hid hsz
  have HBP := Lib.hid hbp
  have HBX : Hid (∀ W, Below w0.heap.size w0 W → W.cell? ⟨w.heap.size, 0, none⟩ = some (.int .i64 (g : Int)) ∧ W.cell? ⟨w.heap.size, 1, none⟩ = some (.slice Ar rels.length cr) ∧ W.cell? ⟨w.heap.size + 1, 0, none⟩ = some (.slice At t.length ct)) := Lib.hid fun W h => by
    obtain ⟨a, b⟩ := cell_of2 ((h.block _ (Array.getElem?_eq_some_iff.1 hbp).1).trans hbp)
    exact ⟨a, b, (cell_of1 ((h.block _ (Array.getElem?_eq_some_iff.1 hbt).1).trans hbt)).1⟩
  have HB00 := Lib.hid (Below.refl w0.heap.size w0)
  clear hw0 hb0 hsz hbp hbt HPB
  go_wp2_with (first
    | ((with_reducible refine wpList_sel 19 ?_); refine wpList_val rfl (r_loadAt 26 (.tmp 3) _ _ rfl rfl (load40 HBP.out)) ?_)
    | (go_at_call 32; (refine (H78.out w0 (kept_tab.below HRR.out HB0.out)).mono ?_); rintro e w1 ⟨⟨y, rfl⟩, hb⟩
       have HB1 := Lib.hid hb
       obtain ⟨p1, q1, t1⟩ := HBX.out _ hb
       clear hb)
    | (go_at_call 33; (refine (H81.out _ _ (HBX.out _ HB1.out).1 (kept_tab.below HSS.out (HB0.out.trans (HB1.out.mono HB0.out.size)))).mono ?_); rintro e w2 ⟨rfl, hb⟩
       have HB2 := Lib.hid (HB1.out.trans (hb.mono HB1.out.size))
       obtain ⟨p2, q2, t2⟩ := HBX.out _ HB2.out
       clear hb p1 q1 t1)
    | (go_at_call 29; (refine (H43.out _ (kept_tab.below HTT.out (HB0.out.trans (HB2.out.mono HB0.out.size)))).mono ?_); rintro e w3 ⟨⟨y3, rfl⟩, hb⟩
       have HB3 := Lib.hid (HB2.out.trans (hb.mono HB2.out.size))
       obtain ⟨p3, q3, t3⟩ := HBX.out _ HB3.out
       clear hb p2 q2 t2))
  go_ret2
  exact ⟨ret_bi (by rw [HE.out]) (by rw [HE.out]), HB0.out.trans (HB3.out.mono HB0.out.size)⟩
set_option maxRecDepth 100000 in
set_option maxHeartbeats 2000000 in
theorem holds35_part (w : World) (vr vs vt : Value) (g : Nat) (rels sub : List W) (t : Tb) (hR : Tab w vr rels) (hS : Tab w vs sub) (ht : Tab w vt t) (hg16 : g ≤ 16) (he : presE g rels = 0) (hs : (sub.any fun w => w.any (letBad g)) = false) (hc : (check g t).1 = 0) (hp : complete t = false) : Calls Tryz.prog 40 #[.agg #[.int .i64 (g : Int), vr], vs, vt] w (HoldsPost g rels sub t w) := by
  obtain ⟨Ar, cr, rfl⟩ := Tab.form hR
  obtain ⟨As, cs, rfl⟩ := Tab.form hS
  obtain ⟨At, ct, rfl⟩ := Tab.form ht
  have H78 : Hid (∀ W, Tab W (.slice Ar rels.length cr) rels → Calls Tryz.prog 32 #[.agg #[.int .i64 (g : Int), .slice Ar rels.length cr]] W fun e w' => (∃ y, e = .returned (.tuple #[.int .i64 (presE (g : Int) rels), .int .i64 y])) ∧ Below W.heap.size W w') := Lib.hid fun W h => pcheck78_any W _ _ rels h
  have H81 : Hid (∀ (W : World) (B : Nat), W.cell? ⟨B, 0, none⟩ = some (.int .i64 (g : Int)) → Tab W (.slice As sub.length cs) sub → Calls Tryz.prog 33 #[.slice As sub.length cs, .func (.func 67) #[] #[.pointer (some ⟨B, 0, none⟩)]] W fun e w' => e = .returned (.bool (sub.any fun w => w.any (letBad g))) ∧ Below W.heap.size W w') := Lib.hid fun W B hc h =>
    has81_any 67 _ (fun w => w.any (letBad g)) W eg91 _ sub h fun W' u k hb hk hI => neg91_any W' B g u _ hg16 ((hb.cell (p := ⟨B, 0, none⟩) (World.block_lt_of_cell? _ _ hc)).trans hc) hI
  have H43 : Hid (∀ W, Tab W (.slice At t.length ct) t → Calls Tryz.prog 29 #[.int .i64 (g : Int), .slice At t.length ct] W fun e w' => (∃ y, e = .returned (.tuple #[.int .i64 (check g t).1, .int .i64 y])) ∧ Below W.heap.size W w') := Lib.hid fun W h => (check43_any W _ _ t h).mono fun e w' ⟨a, b⟩ => ⟨⟨_, a⟩, b⟩
  have H45 : Hid (∀ W, Tab W (.slice At t.length ct) t → Calls Tryz.prog 70 #[.slice At t.length ct] W fun e w' => e = .returned (.bool (complete t)) ∧ Below W.heap.size W w') := Lib.hid fun W h => complete45_any W _ t h
  rw [he] at H78
  have HE : Hid (holdsE g rels sub t = (false, 0)) := Lib.hid (by unfold holdsE; rw [if_neg (by rw [he]; simp), Int.toNat_natCast, if_neg (by rw [hs]; simp), if_neg (by rw [hc]; simp), holds_part hp])
  rw [hs] at H81
  rw [hc] at H43
  rw [hp] at H45
  clear he hs hg16 hc hp
  have HPB : Hid (∀ w0 : World, w0 = (w.alloc (.cells #[.int .i64 (g : Int), .slice Ar rels.length cr] 26)).alloc (.cells #[.slice At t.length ct] 29) → Below w.heap.size w w0 ∧ w0.heap.size = w.heap.size + 2 ∧ w0.heap[w.heap.size]? = some (.cells #[.int .i64 (g : Int), .slice Ar rels.length cr] 26 (0, 0)) ∧ w0.heap[w.heap.size + 1]? = some (.cells #[.slice At t.length ct] 29 (0, 0))) := Lib.hid fun w0 h => by
    subst h
    refine ⟨((Below.refl _ _).alloc (Nat.le_refl _) _).alloc (by simp) _, by simp, ?_, ?_⟩
    · exact (Below.heap_alloc (w.alloc _) _ w.heap.size (by simp)).trans (heap_alloc_new w _)
    · have := heap_alloc_new (w.alloc (.cells #[.int .i64 (g : Int), .slice Ar rels.length cr] 26)) (.cells #[.slice At t.length ct] 29); rwa [World.size_alloc] at this
  have HRR := Lib.hid hR
  have HSS := Lib.hid hS
  have HTT := Lib.hid ht
  clear hR hS ht
  go_enter Tryz.func40, Tryz.ntmps40
  go_wp2_with fail
  generalize hw0 : (w.alloc (.cells #[.int .i64 (g : Int), .slice Ar rels.length cr] 26)).alloc (.cells #[.slice At t.length ct] 29) = w0 at *
  obtain ⟨hb0, hsz, hbp, hbt⟩ := HPB.out w0 rfl
  have HB0 := Lib.hid hb0
  have HSZ := Lib.hid hsz
  have HBP := Lib.hid hbp
  have HBX : Hid (∀ W, Below w0.heap.size w0 W → W.cell? ⟨w.heap.size, 0, none⟩ = some (.int .i64 (g : Int)) ∧ W.cell? ⟨w.heap.size, 1, none⟩ = some (.slice Ar rels.length cr) ∧ W.cell? ⟨w.heap.size + 1, 0, none⟩ = some (.slice At t.length ct)) := Lib.hid fun W h => by
    obtain ⟨a, b⟩ := cell_of2 ((h.block _ (Array.getElem?_eq_some_iff.1 hbp).1).trans hbp)
    exact ⟨a, b, (cell_of1 ((h.block _ (Array.getElem?_eq_some_iff.1 hbt).1).trans hbt)).1⟩
  have HB00 := Lib.hid (Below.refl w0.heap.size w0)
  clear hw0 hb0 hsz hbp hbt HPB
  go_wp2_with (first
    | ((with_reducible refine wpList_sel 19 ?_); refine wpList_val rfl (r_loadAt 26 (.tmp 3) _ _ rfl rfl (load40 HBP.out)) ?_)
    | (go_at_call 32; (refine (H78.out w0 (kept_tab.below HRR.out HB0.out)).mono ?_); rintro e w1 ⟨⟨y, rfl⟩, hb⟩
       have HB1 := Lib.hid hb
       obtain ⟨p1, q1, t1⟩ := HBX.out _ hb
       clear hb)
    | (go_at_call 33; (refine (H81.out _ _ (HBX.out _ HB1.out).1 (kept_tab.below HSS.out (HB0.out.trans (HB1.out.mono HB0.out.size)))).mono ?_); rintro e w2 ⟨rfl, hb⟩
       have HB2 := Lib.hid (HB1.out.trans (hb.mono HB1.out.size))
       obtain ⟨p2, q2, t2⟩ := HBX.out _ HB2.out
       clear hb p1 q1 t1)
    | (go_at_call 29; (refine (H43.out _ (kept_tab.below HTT.out (HB0.out.trans (HB2.out.mono HB0.out.size)))).mono ?_); rintro e w3 ⟨⟨y3, rfl⟩, hb⟩
       have HB3 := Lib.hid (HB2.out.trans (hb.mono HB2.out.size))
       obtain ⟨p3, q3, t3⟩ := HBX.out _ HB3.out
       clear hb p2 q2 t2)
    | (go_at_call 70; (refine (H45.out _ (kept_tab.below HTT.out (HB0.out.trans (HB3.out.mono HB0.out.size)))).mono ?_); rintro e w4 ⟨rfl, hb⟩
       have HB4 := Lib.hid (HB3.out.trans (hb.mono HB3.out.size))
       obtain ⟨p4, q4, t4⟩ := HBX.out _ HB4.out
       clear hb p3 q3 t3))
  go_ret2
  exact ⟨ret_bi (by rw [HE.out]) (by rw [HE.out]), HB0.out.trans (HB4.out.mono HB0.out.size)⟩
set_option maxRecDepth 100000 in
set_option maxHeartbeats 2000000 in
theorem holds35_good (w : World) (vr vs vt : Value) (g : Nat) (rels sub : List W) (t : Tb) (hR : Tab w vr rels) (hS : Tab w vs sub) (ht : Tab w vt t) (hg16 : g ≤ 16) (he : presE g rels = 0) (hs : (sub.any fun w => w.any (letBad g)) = false) (hc : (check g t).1 = 0) (hp : complete t = true) (hg : TGood g t) : Calls Tryz.prog 40 #[.agg #[.int .i64 (g : Int), vr], vs, vt] w (HoldsPost g rels sub t w) := by
  obtain ⟨Ar, cr, rfl⟩ := Tab.form hR
  obtain ⟨As, cs, rfl⟩ := Tab.form hS
  obtain ⟨At, ct, rfl⟩ := Tab.form ht
  have HRC := Lib.hid hR.cells
  have hrl1 := hR.len_le
  have hsl1 := hS.len_le
  have HSC := Lib.hid hS.cells
  have H78 : Hid (∀ W, Tab W (.slice Ar rels.length cr) rels → Calls Tryz.prog 32 #[.agg #[.int .i64 (g : Int), .slice Ar rels.length cr]] W fun e w' => (∃ y, e = .returned (.tuple #[.int .i64 (presE (g : Int) rels), .int .i64 y])) ∧ Below W.heap.size W w') := Lib.hid fun W h => pcheck78_any W _ _ rels h
  have H81 : Hid (∀ (W : World) (B : Nat), W.cell? ⟨B, 0, none⟩ = some (.int .i64 (g : Int)) → Tab W (.slice As sub.length cs) sub → Calls Tryz.prog 33 #[.slice As sub.length cs, .func (.func 67) #[] #[.pointer (some ⟨B, 0, none⟩)]] W fun e w' => e = .returned (.bool (sub.any fun w => w.any (letBad g))) ∧ Below W.heap.size W w') := Lib.hid fun W B hc h =>
    has81_any 67 _ (fun w => w.any (letBad g)) W eg91 _ sub h fun W' u k hb hk hI => neg91_any W' B g u _ hg16 ((hb.cell (p := ⟨B, 0, none⟩) (World.block_lt_of_cell? _ _ hc)).trans hc) hI
  have H43 : Hid (∀ W, Tab W (.slice At t.length ct) t → Calls Tryz.prog 29 #[.int .i64 (g : Int), .slice At t.length ct] W fun e w' => (∃ y, e = .returned (.tuple #[.int .i64 (check g t).1, .int .i64 y])) ∧ Below W.heap.size W w') := Lib.hid fun W h => (check43_any W _ _ t h).mono fun e w' ⟨a, b⟩ => ⟨⟨_, a⟩, b⟩
  have H45 : Hid (∀ W, Tab W (.slice At t.length ct) t → Calls Tryz.prog 70 #[.slice At t.length ct] W fun e w' => e = .returned (.bool (complete t)) ∧ Below W.heap.size W w') := Lib.hid fun W h => complete45_any W _ t h
  have HRL : Hid (∀ j, j < rels.length → LetsOk g (rels.getD j [])) := Lib.hid fun j hj => by
    obtain ⟨gn, e, -, -, -, h⟩ := presE_good he
    obtain rfl : g = gn := by omega
    exact (h j hj).1
  have HSL := Lib.hid (subs_good hs)
  have HG := Lib.hid hg
  have HCP := Lib.hid hp
  have hn2 := hg.n2
  rw [he] at H78
  have HE : Hid (holdsE g rels sub t = (holdsB rels sub t, 0)) := Lib.hid (by unfold holdsE; rw [if_neg (by rw [he]; simp), Int.toNat_natCast, if_neg (by rw [hs]; simp), if_neg (by rw [hc]; simp)])
  rw [hs] at H81
  rw [hc] at H43
  rw [hp] at H45
  have hrl0 : (0 : Int) ≤ (rels.length : Int) := Int.natCast_nonneg _
  have htl0 : (0 : Int) ≤ (t.length : Int) := Int.natCast_nonneg _
  have hsl0 : (0 : Int) ≤ (sub.length : Int) := Int.natCast_nonneg _
  clear he hs hg16 hc hp hg
  have HPB : Hid (∀ w0 : World, w0 = (w.alloc (.cells #[.int .i64 (g : Int), .slice Ar rels.length cr] 26)).alloc (.cells #[.slice At t.length ct] 29) → Below w.heap.size w w0 ∧ w0.heap.size = w.heap.size + 2 ∧ w0.heap[w.heap.size]? = some (.cells #[.int .i64 (g : Int), .slice Ar rels.length cr] 26 (0, 0)) ∧ w0.heap[w.heap.size + 1]? = some (.cells #[.slice At t.length ct] 29 (0, 0))) := Lib.hid fun w0 h => by
    subst h
    refine ⟨((Below.refl _ _).alloc (Nat.le_refl _) _).alloc (by simp) _, by simp, ?_, ?_⟩
    · exact (Below.heap_alloc (w.alloc _) _ w.heap.size (by simp)).trans (heap_alloc_new w _)
    · have := heap_alloc_new (w.alloc (.cells #[.int .i64 (g : Int), .slice Ar rels.length cr] 26)) (.cells #[.slice At t.length ct] 29); rwa [World.size_alloc] at this
  have HRR := Lib.hid hR
  have HSS := Lib.hid hS
  have HTT := Lib.hid ht
  clear hR hS ht
  go_enter Tryz.func40, Tryz.ntmps40
  go_wp2_with fail
  generalize hw0 : (w.alloc (.cells #[.int .i64 (g : Int), .slice Ar rels.length cr] 26)).alloc (.cells #[.slice At t.length ct] 29) = w0 at *
  obtain ⟨hb0, hsz, hbp, hbt⟩ := HPB.out w0 rfl
  have HB0 := Lib.hid hb0
  have HSZ := Lib.hid hsz
  have HBP := Lib.hid hbp
  have HBX : Hid (∀ W, Below w0.heap.size w0 W → W.cell? ⟨w.heap.size, 0, none⟩ = some (.int .i64 (g : Int)) ∧ W.cell? ⟨w.heap.size, 1, none⟩ = some (.slice Ar rels.length cr) ∧ W.cell? ⟨w.heap.size + 1, 0, none⟩ = some (.slice At t.length ct)) := Lib.hid fun W h => by
    obtain ⟨a, b⟩ := cell_of2 ((h.block _ (Array.getElem?_eq_some_iff.1 hbp).1).trans hbp)
    exact ⟨a, b, (cell_of1 ((h.block _ (Array.getElem?_eq_some_iff.1 hbt).1).trans hbt)).1⟩
  have HB00 := Lib.hid (Below.refl w0.heap.size w0)
  clear hw0 hb0 hsz hbp hbt HPB
  go_wp2_with (first
    | ((with_reducible refine wpList_sel 19 ?_); refine wpList_val rfl (r_loadAt 26 (.tmp 3) _ _ rfl rfl (load40 HBP.out)) ?_)
    | (go_at_call 32; (refine (H78.out w0 (kept_tab.below HRR.out HB0.out)).mono ?_); rintro e w1 ⟨⟨y, rfl⟩, hb⟩
       have HB1 := Lib.hid hb
       obtain ⟨p1, q1, t1⟩ := HBX.out _ hb
       clear hb)
    | (go_at_call 33; (refine (H81.out _ _ (HBX.out _ HB1.out).1 (kept_tab.below HSS.out (HB0.out.trans (HB1.out.mono HB0.out.size)))).mono ?_); rintro e w2 ⟨rfl, hb⟩
       have HB2 := Lib.hid (HB1.out.trans (hb.mono HB1.out.size))
       obtain ⟨p2, q2, t2⟩ := HBX.out _ HB2.out
       clear hb p1 q1 t1)
    | (go_at_call 29; (refine (H43.out _ (kept_tab.below HTT.out (HB0.out.trans (HB2.out.mono HB0.out.size)))).mono ?_); rintro e w3 ⟨⟨y3, rfl⟩, hb⟩
       have HB3 := Lib.hid (HB2.out.trans (hb.mono HB2.out.size))
       obtain ⟨p3, q3, t3⟩ := HBX.out _ HB3.out
       clear hb p2 q2 t2)
    | (go_at_call 70; (refine (H45.out _ (kept_tab.below HTT.out (HB0.out.trans (HB3.out.mono HB0.out.size)))).mono ?_); rintro e w4 ⟨rfl, hb⟩
       have HB4 := Lib.hid (HB3.out.trans (hb.mono HB3.out.size))
       obtain ⟨p4, q4, t4⟩ := HBX.out _ HB4.out
       clear hb p3 q3 t3))
  go_loopw [45] (fun i wr => ∃ k : Nat, i = .int .i64 k ∧ k ≤ sub.length ∧ Hid (∀ j, j < k → leads t 0 (sub.getD j []) = 0) ∧ Hid (Below w0.heap.size w0 wr)) (fun i _ => sub.length - (intOf i).toNat)
  case atStart => exact ⟨0, rfl, by omega, Lib.hid fun j hj => absurd hj (by omega), HB4⟩
  case round =>
    clear p4 q4 t4 HB4
    obtain ⟨k, rfl, hk, HZ, HB⟩ := hrel
    have hk0 : (0 : Int) ≤ (k : Int) := Int.natCast_nonneg _
    obtain ⟨p5, q5, t5⟩ := HBX.out _ HB.out
    have HBW := Lib.hid (HB0.out.trans (HB.out.mono HB0.out.size))
    by_cases hlt : k < sub.length
    · have hlt' : (k : Int) < (sub.length : Int) := by omega
      obtain ⟨b, o, rfl, hcc⟩ := HSC.out (by omega)
      obtain ⟨u, hu, hI⟩ := hcc k hlt
      have hu' := (HBW.out.cell (p := ⟨b, o + k, none⟩) (World.block_lt_of_cell? w _ hu)).trans hu
      have HI := Lib.hid (hI.below HBW.out)
      obtain ⟨Au, cu, rfl, -, -, -⟩ := hI.open_
      have HBA : Hid (Below wr.heap.size wr (wr.alloc (.cells #[.int .i64 0] 3))) := Lib.hid ((Below.refl _ _).alloc (Nat.le_refl _) _)
      have h93 := stay93 (wr.alloc (.cells #[.int .i64 0] 3)) (w.heap.size + 1) wr.heap.size (.slice At t.length ct) (.slice Au (sub.getD k []).length cu) g t 0 (sub.getD k []) ((HBX.out _ (HB.out.trans (HBA.out.mono HB.out.size))).2.2) (cell_of1 (heap_alloc_new wr _)).1
        (kept_tab.below HTT.out (HBW.out.trans (HBA.out.mono HBW.out.size))) (HI.out.below HBA.out) HG.out (HSL.out k hlt) (by have := HG.out.n1; omega)
      have HN : Hid (leads t 0 (sub.getD k []) = 0 → ∀ j, j < k + 1 → leads t 0 (sub.getD j []) = 0) := Lib.hid fun h => all_succ HZ.out h
      have HF : Hid (leads t 0 (sub.getD k []) ≠ 0 → holdsB rels sub t = false) := Lib.hid fun h => holds_sub hlt h
      have H93 := Lib.hid h93
      clear hcc hu hI h93
      simp only [Int.natCast_zero] at H93
      generalize sub.getD k [] = ws at *
      by_cases hz : leads t 0 ws = 0
      · rw [decide_eq_true hz] at H93
        have HN2 := Lib.hid (HN.out hz)
        clear hz HN HF
        go_wp2_with (first
          | (go_at_call 68; (with_reducible refine (stay92 _ _ _).mono ?_); rintro e w' ⟨rfl, rfl⟩)
          | (go_at_call 69; (with_reducible refine H93.out.mono ?_); rintro e w6 ⟨rfl, hb⟩; have HB6 := Lib.hid ((HB.out.trans (HBA.out.mono HB.out.size)).trans (hb.mono (HB.out.trans (HBA.out.mono HB.out.size)).size)); clear hb))
        go_roundw
        case rel => exact ⟨k + 1, by go_num, by omega, HN2, HB6⟩
        case measure => simp [intOf]; omega
      · rw [decide_eq_false hz] at H93
        have HF2 := Lib.hid (HF.out hz)
        clear hz HN HF
        go_wp2_with (first
          | (go_at_call 68; (with_reducible refine (stay92 _ _ _).mono ?_); rintro e w' ⟨rfl, rfl⟩)
          | (go_at_call 69; (with_reducible refine H93.out.mono ?_); rintro e w6 ⟨rfl, hb⟩; have HB6 := Lib.hid ((HB.out.trans (HBA.out.mono HB.out.size)).trans (hb.mono (HB.out.trans (HBA.out.mono HB.out.size)).size)); clear hb))
        go_ret2
        exact ⟨ret_bi (by rw [HE.out, HF2.out]) (by rw [HE.out]), HB0.out.trans (HB6.out.mono HB0.out.size)⟩
    · obtain rfl : k = sub.length := by omega
      rename World => w5
      go_wp2_with fail
      go_loopw [57] (fun i wr => ∃ r : Nat, i = .int .i64 r ∧ r ≤ t.length ∧ Hid (∀ j, j < r → staysB t (j : Int) rels = true) ∧ Hid (Below w0.heap.size w0 wr)) (fun i _ => t.length - (intOf i).toNat)
      case atStart => exact ⟨0, rfl, by omega, Lib.hid fun j hj => absurd hj (by omega), HB⟩
      case round =>
        clear p5 q5 t5 HB HBW
        obtain ⟨r, rfl, hr, HZR, HB⟩ := hrel
        have hr0 : (0 : Int) ≤ (r : Int) := Int.natCast_nonneg _
        obtain ⟨p5, q5, t5⟩ := HBX.out _ HB.out
        by_cases hrl : r < t.length
        · have hrl' : (r : Int) < (t.length : Int) := by omega
          rename World => w6
          go_wp2_with fail
          go_loopw [63] (fun i wr => ∃ k : Nat, i = .int .i64 k ∧ k ≤ rels.length ∧ Hid (∀ j, j < k → leads t r (rels.getD j []) = r) ∧ Hid (Below w0.heap.size w0 wr)) (fun i _ => rels.length - (intOf i).toNat)
          case atStart => exact ⟨0, rfl, by omega, Lib.hid fun j hj => absurd hj (by omega), HB⟩
          case round =>
            clear p5 q5 t5 HB
            obtain ⟨k, rfl, hk, HZK, HB⟩ := hrel
            have hk0 : (0 : Int) ≤ (k : Int) := Int.natCast_nonneg _
            obtain ⟨p5, q5, t5⟩ := HBX.out _ HB.out
            have HBW := Lib.hid (HB0.out.trans (HB.out.mono HB0.out.size))
            by_cases hlt : k < rels.length
            · have hlt' : (k : Int) < (rels.length : Int) := by omega
              obtain ⟨b, o, rfl, hcc⟩ := HRC.out (by omega)
              obtain ⟨u, hu, hI⟩ := hcc k hlt
              have hu' := (HBW.out.cell (p := ⟨b, o + k, none⟩) (World.block_lt_of_cell? w _ hu)).trans hu
              have HI := Lib.hid (hI.below HBW.out)
              obtain ⟨Au, cu, rfl, -, -, -⟩ := hI.open_
              have HBA : Hid (Below wr.heap.size wr (wr.alloc (.cells #[.int .i64 (r : Int)] 3))) := Lib.hid ((Below.refl _ _).alloc (Nat.le_refl _) _)
              have h93 := stay93 (wr.alloc (.cells #[.int .i64 (r : Int)] 3)) (w.heap.size + 1) wr.heap.size (.slice At t.length ct) (.slice Au (rels.getD k []).length cu) g t r (rels.getD k []) ((HBX.out _ (HB.out.trans (HBA.out.mono HB.out.size))).2.2) (cell_of1 (heap_alloc_new wr _)).1
                (kept_tab.below HTT.out (HBW.out.trans (HBA.out.mono HBW.out.size))) (HI.out.below HBA.out) HG.out (HRL.out k hlt) hrl
              have HN : Hid (leads t r (rels.getD k []) = r → ∀ j, j < k + 1 → leads t r (rels.getD j []) = r) := Lib.hid fun h => all_succ HZK.out h
              have HF : Hid (leads t r (rels.getD k []) ≠ r → holdsB rels sub t = false) := Lib.hid fun h => holds_rel hrl hlt h
              have H93 := Lib.hid h93
              clear hcc hu hI h93
              generalize rels.getD k [] = ws at *
              by_cases hz : leads t r ws = r
              · rw [decide_eq_true hz] at H93
                have HN2 := Lib.hid (HN.out hz)
                clear hz HN HF
                go_wp2_with (first
                  | (go_at_call 68; (with_reducible refine (stay92 _ _ _).mono ?_); rintro e w' ⟨rfl, rfl⟩)
                  | (go_at_call 69; (with_reducible refine H93.out.mono ?_); rintro e w8 ⟨rfl, hb⟩; have HB8 := Lib.hid ((HB.out.trans (HBA.out.mono HB.out.size)).trans (hb.mono (HB.out.trans (HBA.out.mono HB.out.size)).size)); clear hb))
                go_roundw
                case rel => exact ⟨k + 1, by go_num, by omega, HN2, HB8⟩
                case measure => simp [intOf]; omega
              · rw [decide_eq_false hz] at H93
                have HF2 := Lib.hid (HF.out hz)
                clear hz HN HF
                go_wp2_with (first
                  | (go_at_call 68; (with_reducible refine (stay92 _ _ _).mono ?_); rintro e w' ⟨rfl, rfl⟩)
                  | (go_at_call 69; (with_reducible refine H93.out.mono ?_); rintro e w8 ⟨rfl, hb⟩; have HB8 := Lib.hid ((HB.out.trans (HBA.out.mono HB.out.size)).trans (hb.mono (HB.out.trans (HBA.out.mono HB.out.size)).size)); clear hb))
                go_ret2
                exact ⟨ret_bi (by rw [HE.out, HF2.out]) (by rw [HE.out]), HB0.out.trans (HB8.out.mono HB0.out.size)⟩
            · obtain rfl : k = rels.length := by omega
              rename World => w9
              go_wp2_with fail
              go_roundw
              case rel => exact ⟨r + 1, by go_num, by omega, Lib.hid (all_succ HZR.out (staysB_true HZK.out)), HB⟩
              case measure => simp [intOf]; omega
        · obtain rfl : r = t.length := by omega
          rename World => w7
          go_wp2_with fail
          go_ret2
          exact ⟨ret_bi (by rw [HE.out, holds_true HCP.out HZ.out HZR.out]) (by rw [HE.out]), HB0.out.trans (HB.out.mono HB0.out.size)⟩
theorem holds35_any (w : World) (vr vs vt : Value) (g : Int) (rels sub : List W) (t : Tb) (hR : Tab w vr rels) (hS : Tab w vs sub) (ht : Tab w vt t) : Calls Tryz.prog 40 #[.agg #[.int .i64 g, vr], vs, vt] w (HoldsPost g rels sub t w) := by
  by_cases he : presE g rels = 0
  · obtain ⟨gn, rfl, h1, h2, -, -⟩ := presE_good he
    cases hs : (sub.any fun w => w.any (letBad gn)) with
    | true => exact holds35_sub w vr vs vt gn rels sub t hR hS ht h2 he hs
    | false =>
      by_cases hc : (check gn t).1 = 0
      · obtain ⟨-, hg, -⟩ := check_good hc
        cases hp : complete t with
        | true => exact holds35_good w vr vs vt gn rels sub t hR hS ht h2 he hs hc hp hg
        | false => exact holds35_part w vr vs vt gn rels sub t hR hS ht h2 he hs hc hp
      · exact holds35_chk w vr vs vt gn rels sub t hR hS ht h2 he hs hc
  · exact holds35_pres w vr vs vt g rels sub t hR hS ht he
end Go.Proofs
namespace Go.Proofs
open Go.RowKit Go.Shelf Go.Proofs.Ct Go.Maps
def zero99 : Array Value := #[.int .i64 0, .slice none 0 0, .slice none 0 0, .slice none 0 0, .int .i64 0]
section
variable {o : Oper} {a : Act} {w w' : World} {n : Nat} {v : Value}
end
def XE (w : World) (b : Nat) (x : List Int) : Prop := w.heap[b]? = some (.cells (ints x).toArray 3 (0, 0))
end Go.Proofs
namespace Go.Proofs
open Go.RowKit Go.Shelf Go.Proofs.Ct Go.Maps
structure RowsSt (G : Int) (vt vr : Value) (F : Nat → Prop) (w1 W : World) (vn : Value) (n : Int) (rows : List (List Int)) : Prop where
  st : OutSt 22 F w1 W vn rows
  box : W.heap[w1.heap.size]? = some (.cells #[.int .i64 G, vt, vr, vn, .int .i64 n] 999099 (0, 0))
section
variable {G : Int} {vt vr : Value} {F : Nat → Prop} {w1 W : World} {vn : Value} {n : Int} {rows : List (List Int)}
end
structure SysR (w : World) (vt vr vn : Value) (t : Tb) (R N : List (List Int)) : Prop where
  tab : Tab w vt t
  reps : Tab w vr R
  nums : Tab w vn N
end Go.Proofs
namespace Go.Proofs
open Go.RowKit Go.Shelf Go.Proofs.Ct Go.Maps
def ListSt (w0 wr : World) (so : Value) (X : List Int) : Prop := OwnI w0.heap.size wr so X ∧ Below w0.heap.size w0 wr
end Go.Proofs
namespace Go.Proofs
open Go.RowKit Go.Shelf Go.Proofs.Ct Go.Maps
def presentE (g : Int) (rels : List W) (t : Tb) : (Int × List W) × Int :=
  if presE g rels ≠ 0 then ((0, []), presE g rels) else
  if (repsE g t).2 ≠ 0 then ((0, []), (repsE g t).2) else
  if holdsB rels [] t = false then ((0, []), 13) else
  if 16 < (pairs t (reps t) g.toNat).length then ((0, []), 5) else
  if tooLong (relTo t (reps t) g.toNat rels t.length) = true then ((0, []), 4) else
  ((((pairs t (reps t) g.toNat).length : Int), relTo t (reps t) g.toNat rels t.length), 0)
def PresentPost (g : Int) (rels : List W) (t : Tb) (w : World) (e : Ending) (w' : World) : Prop :=
  (∃ u, e = .returned (.tuple #[.agg #[.int .i64 (presentE g rels t).1.1, u], .int .i64 (presentE g rels t).2]) ∧ Tab w' u (presentE g rels t).1.2) ∧ Below w.heap.size w w'
def zero40 : Array Value := #[.int .i64 0, .slice none 0 0]
theorem build40z (w : World) : (Instr.build 26 #[]).run Tryz.prog w = .ok (.agg zero40) w := by kernel_rfl
theorem build40m (m : Int) (w : World) : (Instr.build 26 #[(0, .int .i64 m)]).run Tryz.prog w = .ok (.agg #[.int .i64 m, .slice none 0 0]) w := by kernel_rfl
theorem alloc40 (w : World) : (Instr.alloc 26 true (.tuple #[])).run Tryz.prog w = .ok (.pointer (some ⟨w.heap.size, 0, none⟩)) (w.alloc (.cells zero40 26)) := by kernel_rfl
theorem info40s : (Tryz.prog.info? 26).map (·.size) = some 2 := by kernel_rfl
theorem zero40_one : zero40.all (·.oneCell') = true := by simp [zero40, Value.oneCell']
theorem one40 (A : Option Addr) (n a : Nat) (x : Int) : (#[Value.int .i64 x, .slice A n a] : Array Value).all (·.oneCell') = true := by simp [Value.oneCell']
section
variable {o : Oper} {a : Act} {w w' : World} {n : Nat} {v : Value}
theorem r_store40 (x y : Operand) (ho : o.op = .store 26 x y) (g : Nat) (old c' : Array Value) (hx : a.eval x = .pointer (some ⟨g, 0, none⟩)) (hy : a.eval y = .agg c') (hg : w.heap[g]? = some (.cells old 26 (0, 0)))
    (hi : c'.size = 2) (hoo : old.size = 2) (h1 : c'.all (·.oneCell') = true) : (execOp a.eval o).run Tryz.prog w = .ok .skip (w.setRow g c') := by
  unfold execOp
  simp only [ho, hx, hy, Instr.storeAt, Instr.sureAddr, Sem.run_bind, Sem.run_pure, Result.andThen_ok, run_storeVar_row w g 26 26 old c' hg (by rw [hi]; exact info40s) (by rw [hi, hoo]) h1]
theorem r_build40 (ho : o.op = .build 26 #[]) : (execOp a.eval o).run Tryz.prog w = .ok (.value (.agg zero40)) w := by
  have hb := build40z w
  unfold execOp
  simp only [ho, List.map_toArray, List.map_nil, Sem.run_bind, hb, Result.andThen_ok]
  rfl
theorem r_build40m (x : Operand) (m : Int) (ho : o.op = .build 26 #[(0, x)]) (hx : a.eval x = .int .i64 m) : (execOp a.eval o).run Tryz.prog w = .ok (.value (.agg #[.int .i64 m, .slice none 0 0])) w := by
  have hb := build40m m w
  unfold execOp
  simp only [ho, List.map_toArray, List.map_cons, List.map_nil, hx, Sem.run_bind, hb, Result.andThen_ok]
  rfl
theorem r_alloc40 (ho : o.op = .alloc 26) : (execOp a.eval o).run Tryz.prog w = .ok (.value (.pointer (some ⟨w.heap.size, 0, none⟩))) (w.alloc (.cells zero40 26)) := by
  have hb := alloc40 w
  unfold execOp
  simp only [ho, Sem.run_bind, hb, Result.andThen_ok]
  rfl
end
theorem results_40_tmp {fn : Func} {p q : Tmp} (h : fn.results = #[.cell p 26, .tmp q]) (tmps : Array Value) (w : World) (g : Nat) (cs : Array Value) (u : Value)
    (hp : tmps.getD p undef = .pointer (some ⟨g, 0, none⟩)) (hq : tmps.getD q undef = u) (hg : w.heap[g]? = some (.cells cs 26 (0, 0))) (hs : cs.size = 2) :
    (results fn tmps).run Tryz.prog w = .ok (.tuple #[.agg cs, u]) w := by
  have hp' : tmps[p]?.getD undef = .pointer (some ⟨g, 0, none⟩) := by simpa using hp
  have hq' : tmps[q]?.getD undef = u := by simpa using hq
  simp [results, h, hp', hq', asAddr, run_loadVar_row w g 26 26 cs (0, 0) _ hg Tryz.underlying26 rfl (by rw [hs]; exact info40s)]
structure PrSt (F : Nat → Prop) (w0 : World) (m : Int) (wr : World) (A : Option Addr) (c : Nat) (acc : List W) : Prop where
  out : OutSt 39 F w0 wr (.slice A acc.length c) acc
  box : wr.heap[w0.heap.size]? = some (.cells #[.int .i64 m, .slice A acc.length c] 26 (0, 0))
theorem PrSt.below' {F : Nat → Prop} {w0 wr w' : World} {m : Int} {A : Option Addr} {c : Nat} {acc : List W} (h : PrSt F w0 m wr A c acc) (hb : Below wr.heap.size wr w') : PrSt F w0 m w' A c acc :=
  ⟨h.out.below' hb, (hb.block _ (Array.getElem?_eq_some_iff.1 h.box).1).trans h.box⟩
theorem PrSt.first (w0 : World) (m : Int) : PrSt (fun _ => False) w0 m ((w0.alloc (.cells zero40 26)).setRow w0.heap.size #[.int .i64 m, .slice none 0 0]) none 0 [] :=
  ⟨OutSt.nil 39 (below_boxed (Below.refl _ _) _ _), setRow_heap _ _ _ _ _ _ (heap_alloc_new w0 _)⟩
theorem PrSt.push {F : Nat → Prop} {w0 wr w1 : World} {m : Int} {A : Option Addr} {c : Nat} {acc : List W} (h : PrSt F w0 m wr A c acc) {Ax : Option Addr} {cx : Nat} {x : List Int} (hb : Below wr.heap.size wr w1) (hx : OwnI wr.heap.size w1 (.slice Ax x.length cx) x) (hf : Fits x) (hl : acc.length ≤ 1000000) :
    ∃ A' c' w', (Builtin.append_ #[24, 24] 24 #[.slice A acc.length c, .slice (some ⟨w1.heap.size, 0, none⟩) 1 1]).run Tryz.prog (w1.alloc (.cells #[.slice Ax x.length cx] 39)) = .ok (.slice A' (acc.length + 1) c') w' ∧
      (w'.cell? ⟨w0.heap.size, 1, none⟩ = some (.slice A acc.length c) ∧ w'.frozen? ⟨w0.heap.size, 1, none⟩ = false) ∧
      PrSt (fun k => F k ∨ (Value.slice Ax x.length cx).ownBlock = some k) w0 m (w'.setCell ⟨w0.heap.size, 1, none⟩ (.slice A' (acc.length + 1) c')) A' c' (acc ++ [x]) := by
  have h1 := h.below' hb
  obtain ⟨A', c', w', hr, hS, hg⟩ := (h.out.with_row hb hx).done' (t := 24) (e := 39) (by decide) Tryz.underlying24 info25p hf hl
  have hbx : w'.heap[w0.heap.size]? = some (.cells #[.int .i64 m, .slice A acc.length c] 26 (0, 0)) := grown_cells hg h1.box fun e => by
    obtain ⟨-, C, hC⟩ := h1.out.out.block _ e
    rw [h1.box] at hC
    cases hC
  refine ⟨A', c', w', hr, ⟨(cell_of2 hbx).2, by simp [World.frozen?, hbx]⟩, ?_, ?_⟩
  · have := hS.grown (grown_setCell w' w0.heap.size 1 (.slice A' (acc.length + 1) c')) fun r hr => by
      cases hr
      refine ⟨Nat.le_refl _, fun hF => ?_, fun e => ?_⟩
      · obtain ⟨-, -, C, hC⟩ := hS.fs _ hF
        rw [hbx] at hC
        cases hC
      · obtain ⟨-, C, hC⟩ := hS.out.block _ e
        rw [hbx] at hC
        cases hC
    rwa [show (acc ++ [x]).length = acc.length + 1 by simp]
  · rw [show (acc ++ [x]).length = acc.length + 1 by simp]
    simp [World.setCell, Array.getElem?_modify, hbx]
end Go.Proofs
