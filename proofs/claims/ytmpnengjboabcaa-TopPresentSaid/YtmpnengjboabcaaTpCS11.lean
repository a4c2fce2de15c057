/- Holds: the plain law; the closures of coset.Holds; coset.Holds; The reference's system: tree; The reference's system in memory: its box, its rows of numbers; The reference's system under construction; The reference's rewrite of a system; rewrite.Present: what it answers; structs of type 40; the relators under way. -/
import Derived.Test.YtmpnengjboabcaaTpCS10
namespace Go.Proofs
open Go.RowKit Go.Shelf Go.Proofs.Ct Go.Maps
def holdsE (g : Int) (rels sub : List W) (t : Tb) : Bool × Int :=
  if presE g rels ≠ 0 then (false, presE g rels) else
  if (sub.any fun w => w.any (letBad g.toNat)) = true then (false, 2) else
  if (check g t).1 ≠ 0 then (false, (check g t).1) else (holdsB rels sub t, 0)
def HoldsPost (g : Int) (rels sub : List W) (t : Tb) (w : World) (e : Ending) (w' : World) : Prop :=
  e = .returned (.tuple #[.bool (holdsE g rels sub t).1, .int .i64 (holdsE g rels sub t).2]) ∧ Below w.heap.size w w'
theorem all_getD {p : W → Bool} {l : List W} : l.all p = true ↔ ∀ j, j < l.length → p (l.getD j []) = true := by
  rw [List.all_eq_true]
  constructor
  · intro h j hj
    rw [List.getD_eq_getElem?_getD, List.getElem?_eq_getElem hj]
    exact h _ (List.getElem_mem hj)
  · intro h x hx
    obtain ⟨c, hc, rfl⟩ := List.mem_iff_getElem.1 hx
    have := h c hc
    rwa [List.getD_eq_getElem?_getD, List.getElem?_eq_getElem hc] at this
theorem staysB_true {t : Tb} {r : Int} {l : List W} (h : ∀ j, j < l.length → leads t r (l.getD j []) = r) : staysB t r l = true := all_getD.2 fun j hj => by simpa using h j hj
theorem staysB_false {t : Tb} {r : Int} {l : List W} {j : Nat} (hj : j < l.length) (h : leads t r (l.getD j []) ≠ r) : staysB t r l = false := by
  rw [Bool.eq_false_iff]
  intro h'
  have := all_getD.1 h' j hj
  simp at this
  exact h (by simpa using this)
theorem holds_true {rels sub : List W} {t : Tb} (h1 : complete t = true) (h2 : ∀ j, j < sub.length → leads t 0 (sub.getD j []) = 0) (h3 : ∀ r, r < t.length → staysB t (r : Int) rels = true) : holdsB rels sub t = true := by
  unfold holdsB
  rw [h1, staysB_true h2]
  simp only [Bool.true_and, List.all_eq_true, List.mem_range]
  exact h3
theorem holds_sub {rels sub : List W} {t : Tb} {j : Nat} (hj : j < sub.length) (h : leads t 0 (sub.getD j []) ≠ 0) : holdsB rels sub t = false := by
  unfold holdsB
  rw [staysB_false hj h]
  simp
theorem holds_rel {rels sub : List W} {t : Tb} {r j : Nat} (hr : r < t.length) (hj : j < rels.length) (h : leads t r (rels.getD j []) ≠ r) : holdsB rels sub t = false := by
  unfold holdsB
  have : ((List.range t.length).all fun r => staysB t (r : Int) rels) = false := by
    rw [Bool.eq_false_iff]
    intro h'
    rw [List.all_eq_true] at h'
    have := h' r (by simpa using hr)
    rw [staysB_false hj h] at this
    cases this
  rw [this]
  simp
theorem holds_part {rels sub : List W} {t : Tb} (h : complete t = false) : holdsB rels sub t = false := by unfold holdsB; rw [h]; rfl
/-- the letters of a valid presentation -/
theorem presE_good {g : Int} {rels : List W} (h : presE g rels = 0) : ∃ gn : Nat, g = gn ∧ 1 ≤ gn ∧ gn ≤ 16 ∧ rels.length ≤ 100 ∧ ∀ j, j < rels.length → LetsOk gn (rels.getD j []) ∧ (rels.getD j []).length ≤ 4000 := by
  unfold presE at h
  by_cases h1 : g < 1 ∨ 16 < g
  · rw [if_pos h1] at h; omega
  · rw [if_neg h1] at h
    by_cases h2 : 100 < rels.length
    · rw [if_pos h2] at h; omega
    · rw [if_neg h2] at h
      have hz : ∀ j, j < rels.length → presBad g.toNat rels j = 0 := by
        cases hf : first (fun k => decide (presBad g.toNat rels k ≠ 0)) rels.length with
        | none => intro j hj; simpa using first_none' hf j hj
        | some k =>
          rw [hf] at h
          have h3 := (first_some' hf).2.1
          simp at h3
          exact absurd h h3
      refine ⟨g.toNat, by omega, by omega, by omega, by omega, fun j hj => ?_⟩
      have hb := hz j hj
      unfold presBad at hb
      by_cases h3 : 4000 < sumTo rels (j + 1)
      · rw [if_pos h3] at hb; omega
      · rw [if_neg h3] at hb
        refine ⟨letsOk_of ?_, ?_⟩
        · cases hx : (rels.getD j []).any (letBad g.toNat) with
          | false => rfl
          | true => rw [hx] at hb; simp at hb
        · rw [sumTo_succ] at h3; omega
theorem subs_good {g : Nat} {sub : List W} (h : (sub.any fun w => w.any (letBad g)) = false) : ∀ j, j < sub.length → LetsOk g (sub.getD j []) := fun j hj => letsOk_of (by
  rw [List.any_eq_false] at h
  have := h (sub.getD j []) (by rw [List.getD_eq_getElem?_getD, List.getElem?_eq_getElem hj]; exact List.getElem_mem hj)
  exact Bool.eq_false_iff.2 this)
theorem load40 {w : World} {b : Nat} {v0 v1 : Value} (hc : w.heap[b]? = some (.cells #[v0, v1] 40 (0, 0))) : (Instr.loadAt 40 (.pointer (some ⟨b, 0, none⟩))).run Try.prog w = .ok (.agg #[v0, v1]) w := by
  have hr : w.rangeAt b 0 [v0, v1] := fun j v hj => by rw [cell_of_row _ _ _ _ _ _ hc, Nat.zero_add]; simpa using hj
  exact run_loadAt_mid (P := Try.prog) w b 0 40 [v0, v1] _ hr Try.underlying40 rfl (by kernel_rfl)
theorem neg91_any (w : World) (B g : Nat) (u : Value) (ws : List Int) (hg : g ≤ 16) (hc : w.cell? ⟨B, 0, none⟩ = some (.int .i64 (g : Int))) (hu : IntsAt w u ws) :
    Calls Try.prog 115 #[u, .pointer (some ⟨B, 0, none⟩)] w fun e w' => e = .returned (.bool (ws.any (letBad g))) ∧ Below w.heap.size w w' := by
  have HC := Lib.hid (fine83_any w g u ws hg hu)
  obtain ⟨A, c, rfl, -, -, -⟩ := hu.open_
  clear hu
  generalize ws.any (letBad g) = b at *
  go_enter Try.func115, Try.ntmps115
  go_wp2_with (go_at_call 107; (refine HC.out.mono ?_); rintro e w' ⟨rfl, hb⟩; have HB := Lib.hid hb; clear hb)
  go_ret
  exact ⟨ret_bool (by simp), HB.out⟩
theorem eg91 : ∀ args w, (callFunc 115 args).run Try.prog w = .ok (.enter 115 args) w := enters_of Try.func115 (by kernel_rfl) rfl
theorem stay92 (w : World) (r : Int) (p : Value) : Calls Try.prog 116 #[.int .i64 r, p] w fun e w' => e = .returned (.func (.func 117) #[] #[p, .pointer (some ⟨w.heap.size, 0, none⟩)]) ∧ w' = w.alloc (.cells #[.int .i64 r] 3) := by
  go_enter Try.func116, Try.ntmps116
  go_wp2_with fail
  go_ret
  exact ⟨rfl, rfl⟩
set_option maxRecDepth 100000 in
theorem stay93 (w : World) (B R : Nat) (v u : Value) (g : Nat) (t : Tb) (r : Nat) (ws : List Int) (hB : w.cell? ⟨B, 0, none⟩ = some v) (hR : w.cell? ⟨R, 0, none⟩ = some (.int .i64 (r : Int))) (ht : Tab w v t) (hu : IntsAt w u ws) (hg : TGood g t) (hl : LetsOk g ws) (hr : r < t.length) :
    Calls Try.prog 117 #[u, .pointer (some ⟨B, 0, none⟩), .pointer (some ⟨R, 0, none⟩)] w fun e w' => e = .returned (.bool (decide (leads t r ws = (r : Int)))) ∧ Below w.heap.size w w' := by
  have HC := Lib.hid (trace94_any w v u g t r ws ht hu hg hl hr)
  have hbd := leadTo_bd hg hl (r := (r : Int)) (by omega) ws.length (Nat.le_refl _)
  have hbd' : -1 ≤ leads t r ws ∧ leads t r ws < t.length := hbd
  obtain ⟨A, c, rfl⟩ := Tab.form ht
  obtain ⟨Au, cu, rfl, -, -, -⟩ := hu.open_
  have hr0 : (0 : Int) ≤ (r : Int) := Int.natCast_nonneg _
  clear ht hu hg hl hbd
  generalize leads t r ws = l at *
  obtain ⟨l1, l2⟩ := hbd'
  unfold TracePost at HC
  by_cases h : l < 0
  · have HZ : Hid (decide (l = (r : Int)) = false) := Lib.hid (decide_eq_false (by omega))
    rw [if_pos h, decide_eq_false (by omega : ¬ 0 ≤ l)] at HC
    clear h
    generalize decide (l = (r : Int)) = b at *
    go_enter Try.func117, Try.ntmps117
    go_wp2_with (go_at_call 118; (refine HC.out.mono ?_); rintro e w' ⟨rfl, q, rfl⟩)
    go_ret
    exact ⟨ret_bool HZ.out.symm, below_drewN (Below.refl _ _) _⟩
  · rw [if_neg h, decide_eq_true (by omega : 0 ≤ l)] at HC
    by_cases h2 : l = (r : Int)
    · have HZ : Hid (decide (l = (r : Int)) = true) := Lib.hid (decide_eq_true h2)
      have d1 : (l == (r : Int)) = true := by simpa using h2
      clear h h2
      generalize decide (l = (r : Int)) = b at *
      go_enter Try.func117, Try.ntmps117
      go_wp2_with (go_at_call 118; (refine HC.out.mono ?_); rintro e w' ⟨rfl, q, rfl⟩)
      go_ret
      exact ⟨ret_bool HZ.out.symm, below_drewN (Below.refl _ _) _⟩
    · have HZ : Hid (decide (l = (r : Int)) = false) := Lib.hid (decide_eq_false h2)
      have d1 : (l == (r : Int)) = false := by simpa using h2
      clear h h2
      generalize decide (l = (r : Int)) = b at *
      go_enter Try.func117, Try.ntmps117
      go_wp2_with (go_at_call 118; (refine HC.out.mono ?_); rintro e w' ⟨rfl, q, rfl⟩)
      go_ret
      exact ⟨ret_bool HZ.out.symm, below_drewN (Below.refl _ _) _⟩
end Go.Proofs
namespace Go.Proofs
open Go.RowKit Go.Shelf Go.Proofs.Ct Go.Maps
theorem LAt.cells {α : Type} {R : World → Value → α → Prop} {d : α} {w : World} {A : Option Addr} {n c : Nat} {xs : List α} (h : LAt R d w (.slice A n c) xs) : 0 < xs.length → ∃ b off, A = some ⟨b, off, none⟩ ∧ ∀ k, k < xs.length → ∃ u, w.cell? ⟨b, off + k, none⟩ = some u ∧ R w u (xs.getD k d) := by
  obtain ⟨A', c', e, -, -, h3⟩ := h.open_
  cases e
  exact h3
theorem LAt.len_le {α : Type} {R : World → Value → α → Prop} {d : α} {w : World} {v : Value} {xs : List α} (h : LAt R d w v xs) : (xs.length : Int) ≤ 9223372036854775807 := by
  obtain ⟨A', c', e, h1, h2, -⟩ := h.open_
  omega
theorem ret_bi {k : IntKind} {a c : Bool} {b d : Int} (h : a = c) (h' : b = d) : Ending.returned (.tuple #[.bool a, .int k b]) = Ending.returned (.tuple #[.bool c, .int k d]) := by rw [h, h']
set_option maxRecDepth 100000 in
set_option maxHeartbeats 2000000 in
theorem holds35_pres (w : World) (vr vs vt : Value) (g : Int) (rels sub : List W) (t : Tb) (hR : Tab w vr rels) (hS : Tab w vs sub) (ht : Tab w vt t) (he : presE g rels ≠ 0) : Calls Try.prog 43 #[.agg #[.int .i64 g, vr], vs, vt] w (HoldsPost g rels sub t w) := by
  obtain ⟨Ar, cr, rfl⟩ := Tab.form hR
  obtain ⟨As, cs, rfl⟩ := Tab.form hS
  obtain ⟨At, ct, rfl⟩ := Tab.form ht
  have H78 : Hid (∀ W, Tab W (.slice Ar rels.length cr) rels → Calls Try.prog 102 #[.agg #[.int .i64 g, .slice Ar rels.length cr]] W fun e w' => (∃ y, e = .returned (.tuple #[.int .i64 (presE g rels), .int .i64 y])) ∧ Below W.heap.size W w') := Lib.hid fun W h => pcheck78_any W _ _ rels h
  have HE : Hid (holdsE g rels sub t = (false, presE g rels)) := Lib.hid (by unfold holdsE; rw [if_pos he])
  have d1 : (presE g rels != 0) = true := by simpa using he
  generalize presE g rels = x at *
  clear he
  have HPB : Hid (∀ w0 : World, w0 = (w.alloc (.cells #[.int .i64 g, .slice Ar rels.length cr] 40)).alloc (.cells #[.slice At t.length ct] 23) → Below w.heap.size w w0 ∧ w0.heap.size = w.heap.size + 2 ∧ w0.heap[w.heap.size]? = some (.cells #[.int .i64 g, .slice Ar rels.length cr] 40 (0, 0)) ∧ w0.heap[w.heap.size + 1]? = some (.cells #[.slice At t.length ct] 23 (0, 0))) := Lib.hid fun w0 h => by
    subst h
    refine ⟨((Below.refl _ _).alloc (Nat.le_refl _) _).alloc (by simp) _, by simp, ?_, ?_⟩
    · exact (Below.heap_alloc (w.alloc _) _ w.heap.size (by simp)).trans (heap_alloc_new w _)
    · have := heap_alloc_new (w.alloc (.cells #[.int .i64 g, .slice Ar rels.length cr] 40)) (.cells #[.slice At t.length ct] 23); rwa [World.size_alloc] at this
  have HRR := Lib.hid hR
  have HSS := Lib.hid hS
  have HTT := Lib.hid ht
  clear hR hS ht
  go_enter Try.func43, Try.ntmps43
  go_wp2_with fail
  generalize hw0 : (w.alloc (.cells #[.int .i64 g, .slice Ar rels.length cr] 40)).alloc (.cells #[.slice At t.length ct] 23) = w0 at *
  obtain ⟨hb0, hsz, hbp, hbt⟩ := HPB.out w0 rfl
  have HB0 := Lib.hid hb0
  have HSZ := Lib.hid hsz
  have HBP := Lib.hid hbp
  have HBX : Hid (∀ W, Below w0.heap.size w0 W → W.cell? ⟨w.heap.size, 0, none⟩ = some (.int .i64 g) ∧ W.cell? ⟨w.heap.size, 1, none⟩ = some (.slice Ar rels.length cr) ∧ W.cell? ⟨w.heap.size + 1, 0, none⟩ = some (.slice At t.length ct)) := Lib.hid fun W h => by
    obtain ⟨a, b⟩ := cell_of2 ((h.block _ (Array.getElem?_eq_some_iff.1 hbp).1).trans hbp)
    exact ⟨a, b, (cell_of1 ((h.block _ (Array.getElem?_eq_some_iff.1 hbt).1).trans hbt)).1⟩
  have HB00 := Lib.hid (Below.refl w0.heap.size w0)
  clear hw0 hb0 hsz hbp hbt HPB
  go_wp2_with (first
    | ((with_reducible refine wpList_sel 19 ?_); refine wpList_val rfl (r_loadAt 40 (.tmp 3) _ _ rfl rfl (load40 HBP.out)) ?_)
    | (go_at_call 102; (refine (H78.out w0 (kept_tab.below HRR.out HB0.out)).mono ?_); rintro e w1 ⟨⟨y, rfl⟩, hb⟩
       have HB1 := Lib.hid hb
       obtain ⟨p1, q1, t1⟩ := HBX.out _ hb
       clear hb))
  go_ret2
  exact ⟨ret_bi (by rw [HE.out]) (by rw [HE.out]), HB0.out.trans (HB1.out.mono HB0.out.size)⟩
set_option maxRecDepth 100000 in
set_option maxHeartbeats 2000000 in
theorem holds35_sub (w : World) (vr vs vt : Value) (g : Nat) (rels sub : List W) (t : Tb) (hR : Tab w vr rels) (hS : Tab w vs sub) (ht : Tab w vt t) (hg16 : g ≤ 16) (he : presE g rels = 0) (hs : (sub.any fun w => w.any (letBad g)) = true) : Calls Try.prog 43 #[.agg #[.int .i64 (g : Int), vr], vs, vt] w (HoldsPost g rels sub t w) := by
  obtain ⟨Ar, cr, rfl⟩ := Tab.form hR
  obtain ⟨As, cs, rfl⟩ := Tab.form hS
  obtain ⟨At, ct, rfl⟩ := Tab.form ht
  have H78 : Hid (∀ W, Tab W (.slice Ar rels.length cr) rels → Calls Try.prog 102 #[.agg #[.int .i64 (g : Int), .slice Ar rels.length cr]] W fun e w' => (∃ y, e = .returned (.tuple #[.int .i64 (presE (g : Int) rels), .int .i64 y])) ∧ Below W.heap.size W w') := Lib.hid fun W h => pcheck78_any W _ _ rels h
  have H81 : Hid (∀ (W : World) (B : Nat), W.cell? ⟨B, 0, none⟩ = some (.int .i64 (g : Int)) → Tab W (.slice As sub.length cs) sub → Calls Try.prog 105 #[.slice As sub.length cs, .func (.func 115) #[] #[.pointer (some ⟨B, 0, none⟩)]] W fun e w' => e = .returned (.bool (sub.any fun w => w.any (letBad g))) ∧ Below W.heap.size W w') := Lib.hid fun W B hc h =>
    has81_any 115 _ (fun w => w.any (letBad g)) W eg91 _ sub h fun W' u k hb hk hI => neg91_any W' B g u _ hg16 ((hb.cell (p := ⟨B, 0, none⟩) (World.block_lt_of_cell? _ _ hc)).trans hc) hI
  rw [he] at H78
  have HE : Hid (holdsE g rels sub t = (false, 2)) := Lib.hid (by unfold holdsE; rw [if_neg (by rw [he]; simp), Int.toNat_natCast, if_pos hs])
  rw [hs] at H81
  clear he hs hg16
  have HPB : Hid (∀ w0 : World, w0 = (w.alloc (.cells #[.int .i64 (g : Int), .slice Ar rels.length cr] 40)).alloc (.cells #[.slice At t.length ct] 23) → Below w.heap.size w w0 ∧ w0.heap.size = w.heap.size + 2 ∧ w0.heap[w.heap.size]? = some (.cells #[.int .i64 (g : Int), .slice Ar rels.length cr] 40 (0, 0)) ∧ w0.heap[w.heap.size + 1]? = some (.cells #[.slice At t.length ct] 23 (0, 0))) := Lib.hid fun w0 h => by
    subst h
    refine ⟨((Below.refl _ _).alloc (Nat.le_refl _) _).alloc (by simp) _, by simp, ?_, ?_⟩
    · exact (Below.heap_alloc (w.alloc _) _ w.heap.size (by simp)).trans (heap_alloc_new w _)
    · have := heap_alloc_new (w.alloc (.cells #[.int .i64 (g : Int), .slice Ar rels.length cr] 40)) (.cells #[.slice At t.length ct] 23); rwa [World.size_alloc] at this
  have HRR := Lib.hid hR
  have HSS := Lib.hid hS
  have HTT := Lib.hid ht
  clear hR hS ht
  go_enter Try.func43, Try.ntmps43
  go_wp2_with fail
  generalize hw0 : (w.alloc (.cells #[.int .i64 (g : Int), .slice Ar rels.length cr] 40)).alloc (.cells #[.slice At t.length ct] 23) = w0 at *
  obtain ⟨hb0, hsz, hbp, hbt⟩ := HPB.out w0 rfl
  have HB0 := Lib.hid hb0
  have HSZ := Lib.hid hsz
  have HBP := Lib.hid hbp
  have HBX : Hid (∀ W, Below w0.heap.size w0 W → W.cell? ⟨w.heap.size, 0, none⟩ = some (.int .i64 (g : Int)) ∧ W.cell? ⟨w.heap.size, 1, none⟩ = some (.slice Ar rels.length cr) ∧ W.cell? ⟨w.heap.size + 1, 0, none⟩ = some (.slice At t.length ct)) := Lib.hid fun W h => by
    obtain ⟨a, b⟩ := cell_of2 ((h.block _ (Array.getElem?_eq_some_iff.1 hbp).1).trans hbp)
    exact ⟨a, b, (cell_of1 ((h.block _ (Array.getElem?_eq_some_iff.1 hbt).1).trans hbt)).1⟩
  have HB00 := Lib.hid (Below.refl w0.heap.size w0)
  clear hw0 hb0 hsz hbp hbt HPB
  go_wp2_with (first
    | ((with_reducible refine wpList_sel 19 ?_); refine wpList_val rfl (r_loadAt 40 (.tmp 3) _ _ rfl rfl (load40 HBP.out)) ?_)
    | (go_at_call 102; (refine (H78.out w0 (kept_tab.below HRR.out HB0.out)).mono ?_); rintro e w1 ⟨⟨y, rfl⟩, hb⟩
       have HB1 := Lib.hid hb
       obtain ⟨p1, q1, t1⟩ := HBX.out _ hb
       clear hb)
    | (go_at_call 105; (refine (H81.out _ _ (HBX.out _ HB1.out).1 (kept_tab.below HSS.out (HB0.out.trans (HB1.out.mono HB0.out.size)))).mono ?_); rintro e w2 ⟨rfl, hb⟩
       have HB2 := Lib.hid (HB1.out.trans (hb.mono HB1.out.size))
       obtain ⟨p2, q2, t2⟩ := HBX.out _ HB2.out
       clear hb p1 q1 t1))
  go_ret2
  exact ⟨ret_bi (by rw [HE.out]) (by rw [HE.out]), HB0.out.trans (HB2.out.mono HB0.out.size)⟩
set_option maxRecDepth 100000 in
set_option maxHeartbeats 2000000 in
theorem holds35_chk (w : World) (vr vs vt : Value) (g : Nat) (rels sub : List W) (t : Tb) (hR : Tab w vr rels) (hS : Tab w vs sub) (ht : Tab w vt t) (hg16 : g ≤ 16) (he : presE g rels = 0) (hs : (sub.any fun w => w.any (letBad g)) = false) (hc : (check g t).1 ≠ 0) : Calls Try.prog 43 #[.agg #[.int .i64 (g : Int), vr], vs, vt] w (HoldsPost g rels sub t w) := by
  obtain ⟨Ar, cr, rfl⟩ := Tab.form hR
  obtain ⟨As, cs, rfl⟩ := Tab.form hS
  obtain ⟨At, ct, rfl⟩ := Tab.form ht
  have H78 : Hid (∀ W, Tab W (.slice Ar rels.length cr) rels → Calls Try.prog 102 #[.agg #[.int .i64 (g : Int), .slice Ar rels.length cr]] W fun e w' => (∃ y, e = .returned (.tuple #[.int .i64 (presE (g : Int) rels), .int .i64 y])) ∧ Below W.heap.size W w') := Lib.hid fun W h => pcheck78_any W _ _ rels h
  have H81 : Hid (∀ (W : World) (B : Nat), W.cell? ⟨B, 0, none⟩ = some (.int .i64 (g : Int)) → Tab W (.slice As sub.length cs) sub → Calls Try.prog 105 #[.slice As sub.length cs, .func (.func 115) #[] #[.pointer (some ⟨B, 0, none⟩)]] W fun e w' => e = .returned (.bool (sub.any fun w => w.any (letBad g))) ∧ Below W.heap.size W w') := Lib.hid fun W B hc h =>
    has81_any 115 _ (fun w => w.any (letBad g)) W eg91 _ sub h fun W' u k hb hk hI => neg91_any W' B g u _ hg16 ((hb.cell (p := ⟨B, 0, none⟩) (World.block_lt_of_cell? _ _ hc)).trans hc) hI
  have H43 : Hid (∀ W, Tab W (.slice At t.length ct) t → Calls Try.prog 51 #[.int .i64 (g : Int), .slice At t.length ct] W fun e w' => (∃ y, e = .returned (.tuple #[.int .i64 (check g t).1, .int .i64 y])) ∧ Below W.heap.size W w') := Lib.hid fun W h => (check43_any W _ _ t h).mono fun e w' ⟨a, b⟩ => ⟨⟨_, a⟩, b⟩
  rw [he] at H78
  have HE : Hid (holdsE g rels sub t = (false, (check g t).1)) := Lib.hid (by unfold holdsE; rw [if_neg (by rw [he]; simp), Int.toNat_natCast, if_neg (by rw [hs]; simp), if_pos hc])
  rw [hs] at H81
  have d1 : ((check g t).1 != 0) = true := by simpa using hc
  generalize (check g t).1 = x at *
  clear he hs hg16 hc
  have HPB : Hid (∀ w0 : World, w0 = (w.alloc (.cells #[.int .i64 (g : Int), .slice Ar rels.length cr] 40)).alloc (.cells #[.slice At t.length ct] 23) → Below w.heap.size w w0 ∧ w0.heap.size = w.heap.size + 2 ∧ w0.heap[w.heap.size]? = some (.cells #[.int .i64 (g : Int), .slice Ar rels.length cr] 40 (0, 0)) ∧ w0.heap[w.heap.size + 1]? = some (.cells #[.slice At t.length ct] 23 (0, 0))) := Lib.hid fun w0 h => by
    subst h
    refine ⟨((Below.refl _ _).alloc (Nat.le_refl _) _).alloc (by simp) _, by simp, ?_, ?_⟩
    · exact (Below.heap_alloc (w.alloc _) _ w.heap.size (by simp)).trans (heap_alloc_new w _)
    · have := heap_alloc_new (w.alloc (.cells #[.int .i64 (g : Int), .slice Ar rels.length cr] 40)) (.cells #[.slice At t.length ct] 23); rwa [World.size_alloc] at this
  have HRR := Lib.hid hR
  have HSS := Lib.hid hS
  have HTT := Lib.hid ht
  clear hR hS ht
  go_enter Try.func43, Try.ntmps43
  go_wp2_with fail
  generalize hw0 : (w.alloc (.cells #[.int .i64 (g : Int), .slice Ar rels.length cr] 40)).alloc (.cells #[.slice At t.length ct] 23) = w0 at *
  obtain ⟨hb0, hsz, hbp, hbt⟩ := HPB.out w0 rfl
  have HB0 := Lib.hid hb0
  have HSZ := Lib.hid hsz
  have HBP := Lib.hid hbp
  have HBX : Hid (∀ W, Below w0.heap.size w0 W → W.cell? ⟨w.heap.size, 0, none⟩ = some (.int .i64 (g : Int)) ∧ W.cell? ⟨w.heap.size, 1, none⟩ = some (.slice Ar rels.length cr) ∧ W.cell? ⟨w.heap.size + 1, 0, none⟩ = some (.slice At t.length ct)) := Lib.hid fun W h => by
    obtain ⟨a, b⟩ := cell_of2 ((h.block _ (Array.getElem?_eq_some_iff.1 hbp).1).trans hbp)
    exact ⟨a, b, (cell_of1 ((h.block _ (Array.getElem?_eq_some_iff.1 hbt).1).trans hbt)).1⟩
  have HB00 := Lib.hid (Below.refl w0.heap.size w0)
  clear hw0 hb0 hsz hbp hbt HPB
  go_wp2_with (first
    | ((with_reducible refine wpList_sel 19 ?_); refine wpList_val rfl (r_loadAt 40 (.tmp 3) _ _ rfl rfl (load40 HBP.out)) ?_)
    | (go_at_call 102; (refine (H78.out w0 (kept_tab.below HRR.out HB0.out)).mono ?_); rintro e w1 ⟨⟨y, rfl⟩, hb⟩
       have HB1 := Lib.hid hb
       obtain ⟨p1, q1, t1⟩ := HBX.out _ hb
       clear hb)
    | (go_at_call 105; (refine (H81.out _ _ (HBX.out _ HB1.out).1 (kept_tab.below HSS.out (HB0.out.trans (HB1.out.mono HB0.out.size)))).mono ?_); rintro e w2 ⟨rfl, hb⟩
       have HB2 := Lib.hid (HB1.out.trans (hb.mono HB1.out.size))
       obtain ⟨p2, q2, t2⟩ := HBX.out _ HB2.out
       clear hb p1 q1 t1)
    | (go_at_call 51; (refine (H43.out _ (kept_tab.below HTT.out (HB0.out.trans (HB2.out.mono HB0.out.size)))).mono ?_); rintro e w3 ⟨⟨y3, rfl⟩, hb⟩
       have HB3 := Lib.hid (HB2.out.trans (hb.mono HB2.out.size))
       obtain ⟨p3, q3, t3⟩ := HBX.out _ HB3.out
       clear hb p2 q2 t2))
  go_ret2
  exact ⟨ret_bi (by rw [HE.out]) (by rw [HE.out]), HB0.out.trans (HB3.out.mono HB0.out.size)⟩
set_option maxRecDepth 100000 in
set_option maxHeartbeats 2000000 in
theorem holds35_part (w : World) (vr vs vt : Value) (g : Nat) (rels sub : List W) (t : Tb) (hR : Tab w vr rels) (hS : Tab w vs sub) (ht : Tab w vt t) (hg16 : g ≤ 16) (he : presE g rels = 0) (hs : (sub.any fun w => w.any (letBad g)) = false) (hc : (check g t).1 = 0) (hp : complete t = false) : Calls Try.prog 43 #[.agg #[.int .i64 (g : Int), vr], vs, vt] w (HoldsPost g rels sub t w) := by
  obtain ⟨Ar, cr, rfl⟩ := Tab.form hR
  obtain ⟨As, cs, rfl⟩ := Tab.form hS
  obtain ⟨At, ct, rfl⟩ := Tab.form ht
  have H78 : Hid (∀ W, Tab W (.slice Ar rels.length cr) rels → Calls Try.prog 102 #[.agg #[.int .i64 (g : Int), .slice Ar rels.length cr]] W fun e w' => (∃ y, e = .returned (.tuple #[.int .i64 (presE (g : Int) rels), .int .i64 y])) ∧ Below W.heap.size W w') := Lib.hid fun W h => pcheck78_any W _ _ rels h
  have H81 : Hid (∀ (W : World) (B : Nat), W.cell? ⟨B, 0, none⟩ = some (.int .i64 (g : Int)) → Tab W (.slice As sub.length cs) sub → Calls Try.prog 105 #[.slice As sub.length cs, .func (.func 115) #[] #[.pointer (some ⟨B, 0, none⟩)]] W fun e w' => e = .returned (.bool (sub.any fun w => w.any (letBad g))) ∧ Below W.heap.size W w') := Lib.hid fun W B hc h =>
    has81_any 115 _ (fun w => w.any (letBad g)) W eg91 _ sub h fun W' u k hb hk hI => neg91_any W' B g u _ hg16 ((hb.cell (p := ⟨B, 0, none⟩) (World.block_lt_of_cell? _ _ hc)).trans hc) hI
  have H43 : Hid (∀ W, Tab W (.slice At t.length ct) t → Calls Try.prog 51 #[.int .i64 (g : Int), .slice At t.length ct] W fun e w' => (∃ y, e = .returned (.tuple #[.int .i64 (check g t).1, .int .i64 y])) ∧ Below W.heap.size W w') := Lib.hid fun W h => (check43_any W _ _ t h).mono fun e w' ⟨a, b⟩ => ⟨⟨_, a⟩, b⟩
  have H45 : Hid (∀ W, Tab W (.slice At t.length ct) t → Calls Try.prog 53 #[.slice At t.length ct] W fun e w' => e = .returned (.bool (complete t)) ∧ Below W.heap.size W w') := Lib.hid fun W h => complete45_any W _ t h
  rw [he] at H78
  have HE : Hid (holdsE g rels sub t = (false, 0)) := Lib.hid (by unfold holdsE; rw [if_neg (by rw [he]; simp), Int.toNat_natCast, if_neg (by rw [hs]; simp), if_neg (by rw [hc]; simp), holds_part hp])
  rw [hs] at H81
  rw [hc] at H43
  rw [hp] at H45
  clear he hs hg16 hc hp
  have HPB : Hid (∀ w0 : World, w0 = (w.alloc (.cells #[.int .i64 (g : Int), .slice Ar rels.length cr] 40)).alloc (.cells #[.slice At t.length ct] 23) → Below w.heap.size w w0 ∧ w0.heap.size = w.heap.size + 2 ∧ w0.heap[w.heap.size]? = some (.cells #[.int .i64 (g : Int), .slice Ar rels.length cr] 40 (0, 0)) ∧ w0.heap[w.heap.size + 1]? = some (.cells #[.slice At t.length ct] 23 (0, 0))) := Lib.hid fun w0 h => by
    subst h
    refine ⟨((Below.refl _ _).alloc (Nat.le_refl _) _).alloc (by simp) _, by simp, ?_, ?_⟩
    · exact (Below.heap_alloc (w.alloc _) _ w.heap.size (by simp)).trans (heap_alloc_new w _)
    · have := heap_alloc_new (w.alloc (.cells #[.int .i64 (g : Int), .slice Ar rels.length cr] 40)) (.cells #[.slice At t.length ct] 23); rwa [World.size_alloc] at this
  have HRR := Lib.hid hR
  have HSS := Lib.hid hS
  have HTT := Lib.hid ht
  clear hR hS ht
  go_enter Try.func43, Try.ntmps43
  go_wp2_with fail
  generalize hw0 : (w.alloc (.cells #[.int .i64 (g : Int), .slice Ar rels.length cr] 40)).alloc (.cells #[.slice At t.length ct] 23) = w0 at *
  obtain ⟨hb0, hsz, hbp, hbt⟩ := HPB.out w0 rfl
  have HB0 := Lib.hid hb0
  have HSZ := Lib.hid hsz
  have HBP := Lib.hid hbp
  have HBX : Hid (∀ W, Below w0.heap.size w0 W → W.cell? ⟨w.heap.size, 0, none⟩ = some (.int .i64 (g : Int)) ∧ W.cell? ⟨w.heap.size, 1, none⟩ = some (.slice Ar rels.length cr) ∧ W.cell? ⟨w.heap.size + 1, 0, none⟩ = some (.slice At t.length ct)) := Lib.hid fun W h => by
    obtain ⟨a, b⟩ := cell_of2 ((h.block _ (Array.getElem?_eq_some_iff.1 hbp).1).trans hbp)
    exact ⟨a, b, (cell_of1 ((h.block _ (Array.getElem?_eq_some_iff.1 hbt).1).trans hbt)).1⟩
  have HB00 := Lib.hid (Below.refl w0.heap.size w0)
  clear hw0 hb0 hsz hbp hbt HPB
  go_wp2_with (first
    | ((with_reducible refine wpList_sel 19 ?_); refine wpList_val rfl (r_loadAt 40 (.tmp 3) _ _ rfl rfl (load40 HBP.out)) ?_)
    | (go_at_call 102; (refine (H78.out w0 (kept_tab.below HRR.out HB0.out)).mono ?_); rintro e w1 ⟨⟨y, rfl⟩, hb⟩
       have HB1 := Lib.hid hb
       obtain ⟨p1, q1, t1⟩ := HBX.out _ hb
       clear hb)
    | (go_at_call 105; (refine (H81.out _ _ (HBX.out _ HB1.out).1 (kept_tab.below HSS.out (HB0.out.trans (HB1.out.mono HB0.out.size)))).mono ?_); rintro e w2 ⟨rfl, hb⟩
       have HB2 := Lib.hid (HB1.out.trans (hb.mono HB1.out.size))
       obtain ⟨p2, q2, t2⟩ := HBX.out _ HB2.out
       clear hb p1 q1 t1)
    | (go_at_call 51; (refine (H43.out _ (kept_tab.below HTT.out (HB0.out.trans (HB2.out.mono HB0.out.size)))).mono ?_); rintro e w3 ⟨⟨y3, rfl⟩, hb⟩
       have HB3 := Lib.hid (HB2.out.trans (hb.mono HB2.out.size))
       obtain ⟨p3, q3, t3⟩ := HBX.out _ HB3.out
       clear hb p2 q2 t2)
    | (go_at_call 53; (refine (H45.out _ (kept_tab.below HTT.out (HB0.out.trans (HB3.out.mono HB0.out.size)))).mono ?_); rintro e w4 ⟨rfl, hb⟩
       have HB4 := Lib.hid (HB3.out.trans (hb.mono HB3.out.size))
       obtain ⟨p4, q4, t4⟩ := HBX.out _ HB4.out
       clear hb p3 q3 t3))
  go_ret2
  exact ⟨ret_bi (by rw [HE.out]) (by rw [HE.out]), HB0.out.trans (HB4.out.mono HB0.out.size)⟩
set_option maxRecDepth 100000 in
set_option maxHeartbeats 2000000 in
theorem holds35_good (w : World) (vr vs vt : Value) (g : Nat) (rels sub : List W) (t : Tb) (hR : Tab w vr rels) (hS : Tab w vs sub) (ht : Tab w vt t) (hg16 : g ≤ 16) (he : presE g rels = 0) (hs : (sub.any fun w => w.any (letBad g)) = false) (hc : (check g t).1 = 0) (hp : complete t = true) (hg : TGood g t) : Calls Try.prog 43 #[.agg #[.int .i64 (g : Int), vr], vs, vt] w (HoldsPost g rels sub t w) := by
  obtain ⟨Ar, cr, rfl⟩ := Tab.form hR
  obtain ⟨As, cs, rfl⟩ := Tab.form hS
  obtain ⟨At, ct, rfl⟩ := Tab.form ht
  have HRC := Lib.hid hR.cells
  have hrl1 := hR.len_le
  have hsl1 := hS.len_le
  have HSC := Lib.hid hS.cells
  have H78 : Hid (∀ W, Tab W (.slice Ar rels.length cr) rels → Calls Try.prog 102 #[.agg #[.int .i64 (g : Int), .slice Ar rels.length cr]] W fun e w' => (∃ y, e = .returned (.tuple #[.int .i64 (presE (g : Int) rels), .int .i64 y])) ∧ Below W.heap.size W w') := Lib.hid fun W h => pcheck78_any W _ _ rels h
  have H81 : Hid (∀ (W : World) (B : Nat), W.cell? ⟨B, 0, none⟩ = some (.int .i64 (g : Int)) → Tab W (.slice As sub.length cs) sub → Calls Try.prog 105 #[.slice As sub.length cs, .func (.func 115) #[] #[.pointer (some ⟨B, 0, none⟩)]] W fun e w' => e = .returned (.bool (sub.any fun w => w.any (letBad g))) ∧ Below W.heap.size W w') := Lib.hid fun W B hc h =>
    has81_any 115 _ (fun w => w.any (letBad g)) W eg91 _ sub h fun W' u k hb hk hI => neg91_any W' B g u _ hg16 ((hb.cell (p := ⟨B, 0, none⟩) (World.block_lt_of_cell? _ _ hc)).trans hc) hI
  have H43 : Hid (∀ W, Tab W (.slice At t.length ct) t → Calls Try.prog 51 #[.int .i64 (g : Int), .slice At t.length ct] W fun e w' => (∃ y, e = .returned (.tuple #[.int .i64 (check g t).1, .int .i64 y])) ∧ Below W.heap.size W w') := Lib.hid fun W h => (check43_any W _ _ t h).mono fun e w' ⟨a, b⟩ => ⟨⟨_, a⟩, b⟩
  have H45 : Hid (∀ W, Tab W (.slice At t.length ct) t → Calls Try.prog 53 #[.slice At t.length ct] W fun e w' => e = .returned (.bool (complete t)) ∧ Below W.heap.size W w') := Lib.hid fun W h => complete45_any W _ t h
  have HRL : Hid (∀ j, j < rels.length → LetsOk g (rels.getD j [])) := Lib.hid fun j hj => by
    obtain ⟨gn, e, -, -, -, h⟩ := presE_good he
    obtain rfl : g = gn := by omega
    exact (h j hj).1
  have HSL := Lib.hid (subs_good hs)
  have HG := Lib.hid hg
  have HCP := Lib.hid hp
  have hn2 := hg.n2
  rw [he] at H78
  have HE : Hid (holdsE g rels sub t = (holdsB rels sub t, 0)) := Lib.hid (by unfold holdsE; rw [if_neg (by rw [he]; simp), Int.toNat_natCast, if_neg (by rw [hs]; simp), if_neg (by rw [hc]; simp)])
  rw [hs] at H81
  rw [hc] at H43
  rw [hp] at H45
  have hrl0 : (0 : Int) ≤ (rels.length : Int) := Int.natCast_nonneg _
  have htl0 : (0 : Int) ≤ (t.length : Int) := Int.natCast_nonneg _
  have hsl0 : (0 : Int) ≤ (sub.length : Int) := Int.natCast_nonneg _
  clear he hs hg16 hc hp hg
  have HPB : Hid (∀ w0 : World, w0 = (w.alloc (.cells #[.int .i64 (g : Int), .slice Ar rels.length cr] 40)).alloc (.cells #[.slice At t.length ct] 23) → Below w.heap.size w w0 ∧ w0.heap.size = w.heap.size + 2 ∧ w0.heap[w.heap.size]? = some (.cells #[.int .i64 (g : Int), .slice Ar rels.length cr] 40 (0, 0)) ∧ w0.heap[w.heap.size + 1]? = some (.cells #[.slice At t.length ct] 23 (0, 0))) := Lib.hid fun w0 h => by
    subst h
    refine ⟨((Below.refl _ _).alloc (Nat.le_refl _) _).alloc (by simp) _, by simp, ?_, ?_⟩
    · exact (Below.heap_alloc (w.alloc _) _ w.heap.size (by simp)).trans (heap_alloc_new w _)
    · have := heap_alloc_new (w.alloc (.cells #[.int .i64 (g : Int), .slice Ar rels.length cr] 40)) (.cells #[.slice At t.length ct] 23); rwa [World.size_alloc] at this
  have HRR := Lib.hid hR
  have HSS := Lib.hid hS
  have HTT := Lib.hid ht
  clear hR hS ht
  go_enter Try.func43, Try.ntmps43
  go_wp2_with fail
  generalize hw0 : (w.alloc (.cells #[.int .i64 (g : Int), .slice Ar rels.length cr] 40)).alloc (.cells #[.slice At t.length ct] 23) = w0 at *
  obtain ⟨hb0, hsz, hbp, hbt⟩ := HPB.out w0 rfl
  have HB0 := Lib.hid hb0
  have HSZ := Lib.hid hsz
  have HBP := Lib.hid hbp
  have HBX : Hid (∀ W, Below w0.heap.size w0 W → W.cell? ⟨w.heap.size, 0, none⟩ = some (.int .i64 (g : Int)) ∧ W.cell? ⟨w.heap.size, 1, none⟩ = some (.slice Ar rels.length cr) ∧ W.cell? ⟨w.heap.size + 1, 0, none⟩ = some (.slice At t.length ct)) := Lib.hid fun W h => by
    obtain ⟨a, b⟩ := cell_of2 ((h.block _ (Array.getElem?_eq_some_iff.1 hbp).1).trans hbp)
    exact ⟨a, b, (cell_of1 ((h.block _ (Array.getElem?_eq_some_iff.1 hbt).1).trans hbt)).1⟩
  have HB00 := Lib.hid (Below.refl w0.heap.size w0)
  clear hw0 hb0 hsz hbp hbt HPB
  go_wp2_with (first
    | ((with_reducible refine wpList_sel 19 ?_); refine wpList_val rfl (r_loadAt 40 (.tmp 3) _ _ rfl rfl (load40 HBP.out)) ?_)
    | (go_at_call 102; (refine (H78.out w0 (kept_tab.below HRR.out HB0.out)).mono ?_); rintro e w1 ⟨⟨y, rfl⟩, hb⟩
       have HB1 := Lib.hid hb
       obtain ⟨p1, q1, t1⟩ := HBX.out _ hb
       clear hb)
    | (go_at_call 105; (refine (H81.out _ _ (HBX.out _ HB1.out).1 (kept_tab.below HSS.out (HB0.out.trans (HB1.out.mono HB0.out.size)))).mono ?_); rintro e w2 ⟨rfl, hb⟩
       have HB2 := Lib.hid (HB1.out.trans (hb.mono HB1.out.size))
       obtain ⟨p2, q2, t2⟩ := HBX.out _ HB2.out
       clear hb p1 q1 t1)
    | (go_at_call 51; (refine (H43.out _ (kept_tab.below HTT.out (HB0.out.trans (HB2.out.mono HB0.out.size)))).mono ?_); rintro e w3 ⟨⟨y3, rfl⟩, hb⟩
       have HB3 := Lib.hid (HB2.out.trans (hb.mono HB2.out.size))
       obtain ⟨p3, q3, t3⟩ := HBX.out _ HB3.out
       clear hb p2 q2 t2)
    | (go_at_call 53; (refine (H45.out _ (kept_tab.below HTT.out (HB0.out.trans (HB3.out.mono HB0.out.size)))).mono ?_); rintro e w4 ⟨rfl, hb⟩
       have HB4 := Lib.hid (HB3.out.trans (hb.mono HB3.out.size))
       obtain ⟨p4, q4, t4⟩ := HBX.out _ HB4.out
       clear hb p3 q3 t3))
  go_loopw [45] (fun i wr => ∃ k : Nat, i = .int .i64 k ∧ k ≤ sub.length ∧ Hid (∀ j, j < k → leads t 0 (sub.getD j []) = 0) ∧ Hid (Below w0.heap.size w0 wr)) (fun i _ => sub.length - (intOf i).toNat)
  case atStart => exact ⟨0, rfl, by omega, Lib.hid fun j hj => absurd hj (by omega), HB4⟩
  case round =>
    clear p4 q4 t4 HB4
    obtain ⟨k, rfl, hk, HZ, HB⟩ := hrel
    have hk0 : (0 : Int) ≤ (k : Int) := Int.natCast_nonneg _
    obtain ⟨p5, q5, t5⟩ := HBX.out _ HB.out
    have HBW := Lib.hid (HB0.out.trans (HB.out.mono HB0.out.size))
    by_cases hlt : k < sub.length
    · have hlt' : (k : Int) < (sub.length : Int) := by omega
      obtain ⟨b, o, rfl, hcc⟩ := HSC.out (by omega)
      obtain ⟨u, hu, hI⟩ := hcc k hlt
      have hu' := (HBW.out.cell (p := ⟨b, o + k, none⟩) (World.block_lt_of_cell? w _ hu)).trans hu
      have HI := Lib.hid (hI.below HBW.out)
      obtain ⟨Au, cu, rfl, -, -, -⟩ := hI.open_
      have HBA : Hid (Below wr.heap.size wr (wr.alloc (.cells #[.int .i64 0] 3))) := Lib.hid ((Below.refl _ _).alloc (Nat.le_refl _) _)
      have h93 := stay93 (wr.alloc (.cells #[.int .i64 0] 3)) (w.heap.size + 1) wr.heap.size (.slice At t.length ct) (.slice Au (sub.getD k []).length cu) g t 0 (sub.getD k []) ((HBX.out _ (HB.out.trans (HBA.out.mono HB.out.size))).2.2) (cell_of1 (heap_alloc_new wr _)).1
        (kept_tab.below HTT.out (HBW.out.trans (HBA.out.mono HBW.out.size))) (HI.out.below HBA.out) HG.out (HSL.out k hlt) (by have := HG.out.n1; omega)
      have HN : Hid (leads t 0 (sub.getD k []) = 0 → ∀ j, j < k + 1 → leads t 0 (sub.getD j []) = 0) := Lib.hid fun h => all_succ HZ.out h
      have HF : Hid (leads t 0 (sub.getD k []) ≠ 0 → holdsB rels sub t = false) := Lib.hid fun h => holds_sub hlt h
      have H93 := Lib.hid h93
      clear hcc hu hI h93
      simp only [Int.natCast_zero] at H93
      generalize sub.getD k [] = ws at *
      by_cases hz : leads t 0 ws = 0
      · rw [decide_eq_true hz] at H93
        have HN2 := Lib.hid (HN.out hz)
        clear hz HN HF
        go_wp2_with (first
          | (go_at_call 116; (with_reducible refine (stay92 _ _ _).mono ?_); rintro e w' ⟨rfl, rfl⟩)
          | (go_at_call 117; (with_reducible refine H93.out.mono ?_); rintro e w6 ⟨rfl, hb⟩; have HB6 := Lib.hid ((HB.out.trans (HBA.out.mono HB.out.size)).trans (hb.mono (HB.out.trans (HBA.out.mono HB.out.size)).size)); clear hb))
        go_roundw
        case rel => exact ⟨k + 1, by go_num, by omega, HN2, HB6⟩
        case measure => simp [intOf]; omega
      · rw [decide_eq_false hz] at H93
        have HF2 := Lib.hid (HF.out hz)
        clear hz HN HF
        go_wp2_with (first
          | (go_at_call 116; (with_reducible refine (stay92 _ _ _).mono ?_); rintro e w' ⟨rfl, rfl⟩)
          | (go_at_call 117; (with_reducible refine H93.out.mono ?_); rintro e w6 ⟨rfl, hb⟩; have HB6 := Lib.hid ((HB.out.trans (HBA.out.mono HB.out.size)).trans (hb.mono (HB.out.trans (HBA.out.mono HB.out.size)).size)); clear hb))
        go_ret2
        exact ⟨ret_bi (by rw [HE.out, HF2.out]) (by rw [HE.out]), HB0.out.trans (HB6.out.mono HB0.out.size)⟩
    · obtain rfl : k = sub.length := by omega
      rename World => w5
      go_wp2_with fail
      go_loopw [57] (fun i wr => ∃ r : Nat, i = .int .i64 r ∧ r ≤ t.length ∧ Hid (∀ j, j < r → staysB t (j : Int) rels = true) ∧ Hid (Below w0.heap.size w0 wr)) (fun i _ => t.length - (intOf i).toNat)
      case atStart => exact ⟨0, rfl, by omega, Lib.hid fun j hj => absurd hj (by omega), HB⟩
      case round =>
        clear p5 q5 t5 HB HBW
        obtain ⟨r, rfl, hr, HZR, HB⟩ := hrel
        have hr0 : (0 : Int) ≤ (r : Int) := Int.natCast_nonneg _
        obtain ⟨p5, q5, t5⟩ := HBX.out _ HB.out
        by_cases hrl : r < t.length
        · have hrl' : (r : Int) < (t.length : Int) := by omega
          rename World => w6
          go_wp2_with fail
          go_loopw [63] (fun i wr => ∃ k : Nat, i = .int .i64 k ∧ k ≤ rels.length ∧ Hid (∀ j, j < k → leads t r (rels.getD j []) = r) ∧ Hid (Below w0.heap.size w0 wr)) (fun i _ => rels.length - (intOf i).toNat)
          case atStart => exact ⟨0, rfl, by omega, Lib.hid fun j hj => absurd hj (by omega), HB⟩
          case round =>
            clear p5 q5 t5 HB
            obtain ⟨k, rfl, hk, HZK, HB⟩ := hrel
            have hk0 : (0 : Int) ≤ (k : Int) := Int.natCast_nonneg _
            obtain ⟨p5, q5, t5⟩ := HBX.out _ HB.out
            have HBW := Lib.hid (HB0.out.trans (HB.out.mono HB0.out.size))
            by_cases hlt : k < rels.length
            · have hlt' : (k : Int) < (rels.length : Int) := by omega
              obtain ⟨b, o, rfl, hcc⟩ := HRC.out (by omega)
              obtain ⟨u, hu, hI⟩ := hcc k hlt
              have hu' := (HBW.out.cell (p := ⟨b, o + k, none⟩) (World.block_lt_of_cell? w _ hu)).trans hu
              have HI := Lib.hid (hI.below HBW.out)
              obtain ⟨Au, cu, rfl, -, -, -⟩ := hI.open_
              have HBA : Hid (Below wr.heap.size wr (wr.alloc (.cells #[.int .i64 (r : Int)] 3))) := Lib.hid ((Below.refl _ _).alloc (Nat.le_refl _) _)
              have h93 := stay93 (wr.alloc (.cells #[.int .i64 (r : Int)] 3)) (w.heap.size + 1) wr.heap.size (.slice At t.length ct) (.slice Au (rels.getD k []).length cu) g t r (rels.getD k []) ((HBX.out _ (HB.out.trans (HBA.out.mono HB.out.size))).2.2) (cell_of1 (heap_alloc_new wr _)).1
                (kept_tab.below HTT.out (HBW.out.trans (HBA.out.mono HBW.out.size))) (HI.out.below HBA.out) HG.out (HRL.out k hlt) hrl
              have HN : Hid (leads t r (rels.getD k []) = r → ∀ j, j < k + 1 → leads t r (rels.getD j []) = r) := Lib.hid fun h => all_succ HZK.out h
              have HF : Hid (leads t r (rels.getD k []) ≠ r → holdsB rels sub t = false) := Lib.hid fun h => holds_rel hrl hlt h
              have H93 := Lib.hid h93
              clear hcc hu hI h93
              generalize rels.getD k [] = ws at *
              by_cases hz : leads t r ws = r
              · rw [decide_eq_true hz] at H93
                have HN2 := Lib.hid (HN.out hz)
                clear hz HN HF
                go_wp2_with (first
                  | (go_at_call 116; (with_reducible refine (stay92 _ _ _).mono ?_); rintro e w' ⟨rfl, rfl⟩)
                  | (go_at_call 117; (with_reducible refine H93.out.mono ?_); rintro e w8 ⟨rfl, hb⟩; have HB8 := Lib.hid ((HB.out.trans (HBA.out.mono HB.out.size)).trans (hb.mono (HB.out.trans (HBA.out.mono HB.out.size)).size)); clear hb))
                go_roundw
                case rel => exact ⟨k + 1, by go_num, by omega, HN2, HB8⟩
                case measure => simp [intOf]; omega
              · rw [decide_eq_false hz] at H93
                have HF2 := Lib.hid (HF.out hz)
                clear hz HN HF
                go_wp2_with (first
                  | (go_at_call 116; (with_reducible refine (stay92 _ _ _).mono ?_); rintro e w' ⟨rfl, rfl⟩)
                  | (go_at_call 117; (with_reducible refine H93.out.mono ?_); rintro e w8 ⟨rfl, hb⟩; have HB8 := Lib.hid ((HB.out.trans (HBA.out.mono HB.out.size)).trans (hb.mono (HB.out.trans (HBA.out.mono HB.out.size)).size)); clear hb))
                go_ret2
                exact ⟨ret_bi (by rw [HE.out, HF2.out]) (by rw [HE.out]), HB0.out.trans (HB8.out.mono HB0.out.size)⟩
            · obtain rfl : k = rels.length := by omega
              rename World => w9
              go_wp2_with fail
              go_roundw
              case rel => exact ⟨r + 1, by go_num, by omega, Lib.hid (all_succ HZR.out (staysB_true HZK.out)), HB⟩
              case measure => simp [intOf]; omega
        · obtain rfl : r = t.length := by omega
          rename World => w7
          go_wp2_with fail
          go_ret2
          exact ⟨ret_bi (by rw [HE.out, holds_true HCP.out HZ.out HZR.out]) (by rw [HE.out]), HB0.out.trans (HB.out.mono HB0.out.size)⟩
theorem holds35_any (w : World) (vr vs vt : Value) (g : Int) (rels sub : List W) (t : Tb) (hR : Tab w vr rels) (hS : Tab w vs sub) (ht : Tab w vt t) : Calls Try.prog 43 #[.agg #[.int .i64 g, vr], vs, vt] w (HoldsPost g rels sub t w) := by
  by_cases he : presE g rels = 0
  · obtain ⟨gn, rfl, h1, h2, -, -⟩ := presE_good he
    cases hs : (sub.any fun w => w.any (letBad gn)) with
    | true => exact holds35_sub w vr vs vt gn rels sub t hR hS ht h2 he hs
    | false =>
      by_cases hc : (check gn t).1 = 0
      · obtain ⟨-, hg, -⟩ := check_good hc
        cases hp : complete t with
        | true => exact holds35_good w vr vs vt gn rels sub t hR hS ht h2 he hs hc hp hg
        | false => exact holds35_part w vr vs vt gn rels sub t hR hS ht h2 he hs hc hp
      · exact holds35_chk w vr vs vt gn rels sub t hR hS ht h2 he hs hc
  · exact holds35_pres w vr vs vt g rels sub t hR hS ht he
end Go.Proofs
namespace Go.Proofs
open Go.RowKit Go.Shelf Go.Proofs.Ct Go.Maps
theorem box_cells5 {w : World} {b : Nat} {v0 v1 v2 v3 v4 : Value} {e : TypeId} (hc : w.heap[b]? = some (.cells #[v0, v1, v2, v3, v4] e (0, 0))) : w.cell? ⟨b, 0, none⟩ = some v0 ∧ w.cell? ⟨b, 1, none⟩ = some v1 ∧ w.cell? ⟨b, 2, none⟩ = some v2 ∧ w.cell? ⟨b, 3, none⟩ = some v3 ∧ w.cell? ⟨b, 4, none⟩ = some v4 :=
  ⟨by rw [cell_of_row _ _ _ _ _ _ hc]; rfl, by rw [cell_of_row _ _ _ _ _ _ hc]; rfl, by rw [cell_of_row _ _ _ _ _ _ hc]; rfl, by rw [cell_of_row _ _ _ _ _ _ hc]; rfl, by rw [cell_of_row _ _ _ _ _ _ hc]; rfl⟩
end Go.Proofs
namespace Go.Proofs
open Go.RowKit Go.Shelf Go.Proofs.Ct Go.Maps
def zero99 : Array Value := #[.int .i64 0, .slice none 0 0, .slice none 0 0, .slice none 0 0, .int .i64 0]
section
variable {o : Oper} {a : Act} {w w' : World} {n : Nat} {v : Value}
end
/-- block b is the numbers x, no more -/
def XE (w : World) (b : Nat) (x : List Int) : Prop := w.heap[b]? = some (.cells (ints x).toArray 3 (0, 0))
theorem XE.set {w : World} {b : Nat} {x : List Int} (h : XE w b x) (k : Nat) (v : Int) : XE (w.setCell ⟨b, k, none⟩ (.int .i64 v)) b (x.set k v) := by
  unfold XE at h ⊢
  have : (ints x).toArray.setIfInBounds k (.int .i64 v) = (ints (x.set k v)).toArray := by simp [ints, List.map_set]
  rw [← this]
  simp [World.setCell, Array.getElem?_modify, h]
theorem XE.own {w : World} {b base : Nat} {x : List Int} (h : XE w b x) (hb : base ≤ b) {n : Nat} (hn : x.length = n) (hm : n ≤ 1000000) : OwnI base w (.slice (some ⟨b, 0, none⟩) n n) x := by
  subst hn
  refine ⟨by simp [ints], .inr ⟨b, x.length, (ints x).toArray, rfl, hb, h, Nat.le_refl _, ?_, by simp [ints], ?_⟩⟩
  · have : x.length ≤ 9223372036854775807 := by omega
    simpa [maxLen] using this
  · simp only [Nat.mul_one]
    exact List.take_of_length_le (by simp [ints])
theorem XE.frozen {w : World} {b : Nat} {x : List Int} (h : XE w b x) (k : Nat) : w.frozen? ⟨b, k, none⟩ = false := by
  simp [World.frozen?, show w.heap[b]? = _ from h]
theorem XE.cell {w : World} {b : Nat} {x : List Int} (h : XE w b x) {k : Nat} (hk : k < x.length) : w.cell? ⟨b, k, none⟩ = some (.int .i64 (x.getD k 0)) := by
  rw [cell_of_row _ _ _ _ _ _ (show w.heap[b]? = _ from h)]
  simp [ints, hk, List.getD_eq_getElem?_getD]
end Go.Proofs
namespace Go.Proofs
open Go.RowKit Go.Shelf Go.Proofs.Ct Go.Maps
structure RowsSt (G : Int) (vt vr : Value) (F : Nat → Prop) (w1 W : World) (vn : Value) (n : Int) (rows : List (List Int)) : Prop where
  st : OutSt 24 F w1 W vn rows
  box : W.heap[w1.heap.size]? = some (.cells #[.int .i64 G, vt, vr, vn, .int .i64 n] 106 (0, 0))
section
variable {G : Int} {vt vr : Value} {F : Nat → Prop} {w1 W : World} {vn : Value} {n : Int} {rows : List (List Int)}
theorem RowsSt.below' {W' : World} (h : RowsSt G vt vr F w1 W vn n rows) (hb : Below W.heap.size W W') : RowsSt G vt vr F w1 W' vn n rows :=
  ⟨h.st.below' hb, (hb.block _ (Array.getElem?_eq_some_iff.1 h.box).1).trans h.box⟩
theorem RowsSt.boxF (h : RowsSt G vt vr F w1 W vn n rows) : ¬ F w1.heap.size ∧ vn.ownBlock ≠ some w1.heap.size := by
  refine ⟨fun hF => ?_, fun e => ?_⟩
  · obtain ⟨-, -, C, hC⟩ := h.st.fs _ hF
    rw [h.box] at hC; cases hC
  · obtain ⟨-, C, hC⟩ := h.st.out.block _ e
    rw [h.box] at hC; cases hC
theorem RowsSt.count (h : RowsSt G vt vr F w1 W vn n rows) (n' : Int) : RowsSt G vt vr F w1 (W.setCell ⟨w1.heap.size, 4, none⟩ (.int .i64 n')) vn n' rows := by
  obtain ⟨h1, h2⟩ := h.boxF
  refine ⟨h.st.grown (grown_setCell W w1.heap.size 4 (.int .i64 n')) (fun r hr => by cases hr; exact ⟨Nat.le_refl _, h1, h2⟩), ?_⟩
  simp [World.setCell, Array.getElem?_modify, h.box]
theorem RowsSt.row {nb k : Nat} {x : List Int} (h : RowsSt G vt vr F w1 W vn n rows) (hx : XE W nb x) (h0 : w1.heap.size ≤ nb) (hF : ¬ F nb) (v : Value) : RowsSt G vt vr F w1 (W.setCell ⟨nb, k, none⟩ v) vn n rows := by
  refine ⟨h.st.grown (grown_setCell W nb k v) (fun r hr => by
    cases hr
    refine ⟨h0, hF, fun e => ?_⟩
    obtain ⟨-, C, hC⟩ := h.st.out.block _ e
    rw [show W.heap[nb]? = _ from hx] at hC; cases hC), (Below.heap_setCell W ⟨nb, k, none⟩ v _ (fun e => ?_)).trans h.box⟩
  have hx' : W.heap[nb]? = _ := hx
  have e' : w1.heap.size = nb := e
  rw [← e', h.box] at hx'
  injection hx' with h5
  injection h5 with _ h6 _
  exact absurd h6 (by decide)
theorem XE.count {nb : Nat} {x : List Int} (h : RowsSt G vt vr F w1 W vn n rows) (hx : XE W nb x) (n' : Int) : XE (W.setCell ⟨w1.heap.size, 4, none⟩ (.int .i64 n')) nb x := by
  refine (Below.heap_setCell W ⟨w1.heap.size, 4, none⟩ (.int .i64 n') _ (fun e => ?_)).trans hx
  have hx' : W.heap[nb]? = _ := hx
  have e' : nb = w1.heap.size := e
  rw [e', h.box] at hx'
  injection hx' with h5
  injection h5 with _ h6 _
  exact absurd h6 (by decide)
theorem RowsSt.done {nb g : Nat} {x : List Int} (h : RowsSt G vt vr F w1 W vn n rows) (hx : XE W nb x) (h0 : w1.heap.size ≤ nb) (hF : ¬ F nb) (hl : x.length = g) (hg : g ≤ 1000000) (hf : Fits x) (hr : rows.length ≤ 1000000) :
    ∃ A' c' W', (Builtin.append_ #[22, 22] 22 #[vn, .slice (some ⟨W.heap.size, 0, none⟩) 1 1]).run Try.prog (W.alloc (.cells #[.slice (some ⟨nb, 0, none⟩) g g] 24)) = .ok (.slice A' (rows.length + 1) c') W' ∧
      (W'.cell? ⟨w1.heap.size, 3, none⟩ = some vn ∧ W'.frozen? ⟨w1.heap.size, 3, none⟩ = false) ∧
      ∃ F', RowsSt G vt vr F' w1 (W'.setCell ⟨w1.heap.size, 3, none⟩ (.slice A' (rows.length + 1) c')) (.slice A' (rows.length + 1) c') n (rows ++ [x]) := by
  have h2 : OutSt2 24 F w1 W vn (.slice (some ⟨nb, 0, none⟩) g g) rows x := ⟨h.st, hx.own h0 hl hg, fun r hr' hF' => hF (by cases hr'; exact hF')⟩
  obtain ⟨A', c', W', hrun, hst, hgr⟩ := h2.done' (t := 22) (by decide) Try.underlying22 info24p hf hr
  have hbx := grown_cells hgr h.box h.boxF.2
  refine ⟨A', c', W', hrun, ⟨(box_cells5 hbx).2.2.2.1, by simp [World.frozen?, hbx]⟩, fun k => F k ∨ (Value.slice (some ⟨nb, 0, none⟩) g g).ownBlock = some k, ?_⟩
  have hR : RowsSt G vt vr (fun k => F k ∨ (Value.slice (some ⟨nb, 0, none⟩) g g).ownBlock = some k) w1 W' vn n rows → True := fun _ => trivial
  have hbF : ¬ (F w1.heap.size ∨ (Value.slice (some ⟨nb, 0, none⟩) g g).ownBlock = some w1.heap.size) ∧ (Value.slice A' (rows.length + 1) c').ownBlock ≠ some w1.heap.size := by
    refine ⟨fun hF' => ?_, fun e => ?_⟩
    · obtain ⟨-, -, C, hC⟩ := hst.fs _ hF'
      rw [hbx] at hC; cases hC
    · obtain ⟨-, C, hC⟩ := hst.out.block _ e
      rw [hbx] at hC; cases hC
  refine ⟨hst.grown (grown_setCell W' w1.heap.size 3 (.slice A' (rows.length + 1) c')) (fun r hr => by cases hr; exact ⟨Nat.le_refl _, hbF.1, hbF.2⟩), ?_⟩
  simp [World.setCell, Array.getElem?_modify, hbx]
theorem RowsSt.first (G : Int) (vt vr : Value) (w1 : World) : RowsSt G vt vr (fun _ => False) w1 ((w1.alloc (.cells zero99 106)).setRow w1.heap.size #[.int .i64 G, vt, vr, .slice none 0 0, .int .i64 0]) (.slice none 0 0) 0 [] :=
  ⟨OutSt.nil 24 (below_boxed (Below.refl _ _) _ _), setRow_heap _ _ _ _ _ _ (heap_alloc_new w1 _)⟩
end
/-- the reference's system, as it reads -/
structure SysR (w : World) (vt vr vn : Value) (t : Tb) (R N : List (List Int)) : Prop where
  tab : Tab w vt t
  reps : Tab w vr R
  nums : Tab w vn N
theorem SysR.below {w w' : World} {vt vr vn : Value} {t : Tb} {R N : List (List Int)} (h : SysR w vt vr vn t R N) (hb : Below w.heap.size w w') : SysR w' vt vr vn t R N :=
  ⟨kept_tab.below h.tab hb, kept_tab.below h.reps hb, kept_tab.below h.nums hb⟩
end Go.Proofs
namespace Go.Proofs
open Go.RowKit Go.Shelf Go.Proofs.Ct Go.Maps
/-- the list under way -/
def ListSt (w0 wr : World) (so : Value) (X : List Int) : Prop := OwnI w0.heap.size wr so X ∧ Below w0.heap.size w0 wr
theorem ListSt.push {w0 wr : World} {A : Option Addr} {n c : Nat} {X : List Int} (h : ListSt w0 wr (.slice A n c) X) (hn : n = X.length) (z : Int) (hX : X.length ≤ 1000000) :
    ∃ A' c' w', (Builtin.append_ #[25, 25] 25 #[.slice A n c, .slice (some ⟨wr.heap.size, 0, none⟩) 1 1]).run Try.prog (wr.alloc (.cells #[.int .i64 z] 3)) = .ok (.slice A' (n + 1) c') w' ∧ ListSt w0 w' (.slice A' (n + 1) c') (X ++ [z]) := by
  subst hn
  obtain ⟨A', c', w', hr, ho, hg, -⟩ := push_int 25 25 Try.underlying25 wr w0.heap.size _ X h.1 z (by omega) h.2.size
  exact ⟨A', c', w', hr, ho, h.2.grown hg h.2.size (fun k hk => (owns_block h.1 k hk).1)⟩
end Go.Proofs
namespace Go.Proofs
open Go.RowKit Go.Shelf Go.Proofs.Ct Go.Maps
def presentE (g : Int) (rels : List W) (t : Tb) : (Int × List W) × Int :=
  if presE g rels ≠ 0 then ((0, []), presE g rels) else
  if (repsE g t).2 ≠ 0 then ((0, []), (repsE g t).2) else
  if holdsB rels [] t = false then ((0, []), 13) else
  if 16 < (pairs t (reps t) g.toNat).length then ((0, []), 5) else
  if tooLong (relTo t (reps t) g.toNat rels t.length) = true then ((0, []), 4) else
  ((((pairs t (reps t) g.toNat).length : Int), relTo t (reps t) g.toNat rels t.length), 0)
def PresentPost (g : Int) (rels : List W) (t : Tb) (w : World) (e : Ending) (w' : World) : Prop :=
  (∃ u, e = .returned (.tuple #[.agg #[.int .i64 (presentE g rels t).1.1, u], .int .i64 (presentE g rels t).2]) ∧ Tab w' u (presentE g rels t).1.2) ∧ Below w.heap.size w w'
def zero40 : Array Value := #[.int .i64 0, .slice none 0 0]
theorem build40z (w : World) : (Instr.build 40 #[]).run Try.prog w = .ok (.agg zero40) w := by kernel_rfl
theorem build40m (m : Int) (w : World) : (Instr.build 40 #[(0, .int .i64 m)]).run Try.prog w = .ok (.agg #[.int .i64 m, .slice none 0 0]) w := by kernel_rfl
theorem alloc40 (w : World) : (Instr.alloc 40 true (.tuple #[])).run Try.prog w = .ok (.pointer (some ⟨w.heap.size, 0, none⟩)) (w.alloc (.cells zero40 40)) := by kernel_rfl
theorem info40s : (Try.prog.info? 40).map (·.size) = some 2 := by kernel_rfl
theorem zero40_one : zero40.all (·.oneCell') = true := by simp [zero40, Value.oneCell']
theorem one40 (A : Option Addr) (n a : Nat) (x : Int) : (#[Value.int .i64 x, .slice A n a] : Array Value).all (·.oneCell') = true := by simp [Value.oneCell']
section
variable {o : Oper} {a : Act} {w w' : World} {n : Nat} {v : Value}
theorem r_store40 (x y : Operand) (ho : o.op = .store 40 x y) (g : Nat) (old c' : Array Value) (hx : a.eval x = .pointer (some ⟨g, 0, none⟩)) (hy : a.eval y = .agg c') (hg : w.heap[g]? = some (.cells old 40 (0, 0)))
    (hi : c'.size = 2) (hoo : old.size = 2) (h1 : c'.all (·.oneCell') = true) : (execOp a.eval o).run Try.prog w = .ok .skip (w.setRow g c') := by
  unfold execOp
  simp only [ho, hx, hy, Instr.storeAt, Instr.sureAddr, Sem.run_bind, Sem.run_pure, Result.andThen_ok, run_storeVar_row w g 40 40 old c' hg (by rw [hi]; exact info40s) (by rw [hi, hoo]) h1]
theorem r_build40 (ho : o.op = .build 40 #[]) : (execOp a.eval o).run Try.prog w = .ok (.value (.agg zero40)) w := by
  have hb := build40z w
  unfold execOp
  simp only [ho, List.map_toArray, List.map_nil, Sem.run_bind, hb, Result.andThen_ok]
  rfl
theorem r_build40m (x : Operand) (m : Int) (ho : o.op = .build 40 #[(0, x)]) (hx : a.eval x = .int .i64 m) : (execOp a.eval o).run Try.prog w = .ok (.value (.agg #[.int .i64 m, .slice none 0 0])) w := by
  have hb := build40m m w
  unfold execOp
  simp only [ho, List.map_toArray, List.map_cons, List.map_nil, hx, Sem.run_bind, hb, Result.andThen_ok]
  rfl
theorem r_alloc40 (ho : o.op = .alloc 40) : (execOp a.eval o).run Try.prog w = .ok (.value (.pointer (some ⟨w.heap.size, 0, none⟩))) (w.alloc (.cells zero40 40)) := by
  have hb := alloc40 w
  unfold execOp
  simp only [ho, Sem.run_bind, hb, Result.andThen_ok]
  rfl
end
theorem results_40_tmp {fn : Func} {p q : Tmp} (h : fn.results = #[.cell p 40, .tmp q]) (tmps : Array Value) (w : World) (g : Nat) (cs : Array Value) (u : Value)
    (hp : tmps.getD p undef = .pointer (some ⟨g, 0, none⟩)) (hq : tmps.getD q undef = u) (hg : w.heap[g]? = some (.cells cs 40 (0, 0))) (hs : cs.size = 2) :
    (results fn tmps).run Try.prog w = .ok (.tuple #[.agg cs, u]) w := by
  have hp' : tmps[p]?.getD undef = .pointer (some ⟨g, 0, none⟩) := by simpa using hp
  have hq' : tmps[q]?.getD undef = u := by simpa using hq
  simp [results, h, hp', hq', asAddr, run_loadVar_row w g 40 40 cs (0, 0) _ hg Try.underlying40 rfl (by rw [hs]; exact info40s)]
/-- the relators under way: the result's box b, the list in it -/
structure PrSt (F : Nat → Prop) (w0 : World) (m : Int) (wr : World) (A : Option Addr) (c : Nat) (acc : List W) : Prop where
  out : OutSt 25 F w0 wr (.slice A acc.length c) acc
  box : wr.heap[w0.heap.size]? = some (.cells #[.int .i64 m, .slice A acc.length c] 40 (0, 0))
theorem PrSt.below' {F : Nat → Prop} {w0 wr w' : World} {m : Int} {A : Option Addr} {c : Nat} {acc : List W} (h : PrSt F w0 m wr A c acc) (hb : Below wr.heap.size wr w') : PrSt F w0 m w' A c acc :=
  ⟨h.out.below' hb, (hb.block _ (Array.getElem?_eq_some_iff.1 h.box).1).trans h.box⟩
theorem PrSt.first (w0 : World) (m : Int) : PrSt (fun _ => False) w0 m ((w0.alloc (.cells zero40 40)).setRow w0.heap.size #[.int .i64 m, .slice none 0 0]) none 0 [] :=
  ⟨OutSt.nil 25 (below_boxed (Below.refl _ _) _ _), setRow_heap _ _ _ _ _ _ (heap_alloc_new w0 _)⟩
theorem PrSt.push {F : Nat → Prop} {w0 wr w1 : World} {m : Int} {A : Option Addr} {c : Nat} {acc : List W} (h : PrSt F w0 m wr A c acc) {Ax : Option Addr} {cx : Nat} {x : List Int} (hb : Below wr.heap.size wr w1) (hx : OwnI wr.heap.size w1 (.slice Ax x.length cx) x) (hf : Fits x) (hl : acc.length ≤ 1000000) :
    ∃ A' c' w', (Builtin.append_ #[31, 31] 31 #[.slice A acc.length c, .slice (some ⟨w1.heap.size, 0, none⟩) 1 1]).run Try.prog (w1.alloc (.cells #[.slice Ax x.length cx] 25)) = .ok (.slice A' (acc.length + 1) c') w' ∧
      (w'.cell? ⟨w0.heap.size, 1, none⟩ = some (.slice A acc.length c) ∧ w'.frozen? ⟨w0.heap.size, 1, none⟩ = false) ∧
      PrSt (fun k => F k ∨ (Value.slice Ax x.length cx).ownBlock = some k) w0 m (w'.setCell ⟨w0.heap.size, 1, none⟩ (.slice A' (acc.length + 1) c')) A' c' (acc ++ [x]) := by
  have h1 := h.below' hb
  obtain ⟨A', c', w', hr, hS, hg⟩ := (h.out.with_row hb hx).done' (t := 31) (e := 25) (by decide) Try.underlying31 info25p hf hl
  have hbx : w'.heap[w0.heap.size]? = some (.cells #[.int .i64 m, .slice A acc.length c] 40 (0, 0)) := grown_cells hg h1.box fun e => by
    obtain ⟨-, C, hC⟩ := h1.out.out.block _ e
    rw [h1.box] at hC
    cases hC
  refine ⟨A', c', w', hr, ⟨(cell_of2 hbx).2, by simp [World.frozen?, hbx]⟩, ?_, ?_⟩
  · have := hS.grown (grown_setCell w' w0.heap.size 1 (.slice A' (acc.length + 1) c')) fun r hr => by
      cases hr
      refine ⟨Nat.le_refl _, fun hF => ?_, fun e => ?_⟩
      · obtain ⟨-, -, C, hC⟩ := hS.fs _ hF
        rw [hbx] at hC
        cases hC
      · obtain ⟨-, C, hC⟩ := hS.out.block _ e
        rw [hbx] at hC
        cases hC
    rwa [show (acc ++ [x]).length = acc.length + 1 by simp]
  · rw [show (acc ++ [x]).length = acc.length + 1 by simp]
    simp [World.setCell, Array.getElem?_modify, hbx]
end Go.Proofs
