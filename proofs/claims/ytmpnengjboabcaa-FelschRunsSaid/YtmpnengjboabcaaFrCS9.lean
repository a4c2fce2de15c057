/- The reference's Add: what it meets; The reference's Add; (*coset.state).scan; The reference's Scan; (*coset.state).fill; (*coset.state).run; The reference's run; (*coset.state).table; (*coset.state).table: the walk; coset.Enumerate: its results' cells, and the closure that it defers; coset.Enumerate: what it answers, and how its results are read; The reference's Begin and Given; coset.Enumerate; The reference's Enumerate; The walk of RewriteKnown; The laws of chapter 18: long, vast, small, three, awake; The walk of CosetRuns; Ways of words; what was scanned is closed; What an enumeration ends with, plainly: relators are closed everywhere, the subgroup's words at 0; the table of the living. -/
import Derived.Test.YtmpnengjboabcaaFrCS8
import Derived.Deep.CutBlock
import Derived.Deep.LoopGhost
import Derived.Defers
import Derived.Recover
import Derived.Test.YtmpnengjboabcaaFrCS7
import Derived.Test.YtmpnengjboabcaaFrCS2
namespace Go.Proofs
open Go.RowKit Go.Shelf Go.Proofs.Ct Go.Maps
section
variable {base : Nat} {w w' : World} {t : Tb} {q : List Nat} {P : List Int} {vr vp vq : Value} {bl cs : Nat → Nat}
/-- a row joins -/
theorem CoreN.pushRowR (h : CoreN base w t q P vr vp vq bl cs) (hbw : base ≤ w.heap.size) {g h0 m cap : Nat} {x : List Int} (hg : base ≤ g) (hx : XsAt w g x) (hm : x.length = m) (_hm1 : m ≤ 1000) (hcap : m ≤ cap) (hcap2 : cap ≤ 9223372036854775807) (hn : ∀ i, i < t.length → bl i ≠ g) (hp : vp.ownBlock ≠ some g) (hq : vq.ownBlock ≠ some g) (hc : w.cell? ⟨h0, 0, none⟩ = some (.slice (some ⟨g, 0, none⟩) m cap)) (hl : t.length ≤ 1000000) :
    ∃ A c w', (Builtin.append_ #[23, 23] 23 #[vr, .slice (some ⟨h0, 0, none⟩) 1 1]).run Try.prog w = .ok (.slice A (t.length + 1) c) w' ∧ CoreN base w' (t ++ [x]) q P (.slice A (t.length + 1) c) vp vq (fun i => if i = t.length then g else bl i) (fun i => if i = t.length then cap else cs i) ∧ w.grownBy w' vr.ownBlock := by
  obtain ⟨A, c, w', hr, ho, hgr, -⟩ := run_push_at (t := 23) (ty := 23) Try.underlying23 info24p rfl (by omega) w base vr t.length _ h.out (.slice (some ⟨g, 0, none⟩) m cap) rfl (by omega) hbw h0 hc
  have hne : ∀ (k : Nat) (C : Array Value), w.heap[k]? = some (.cells C 3 (0, 0)) → w'.heap[k]? = w.heap[k]? := fun k C hC => hgr.block k (Array.getElem?_eq_some_iff.1 hC).1 fun e => by
    obtain ⟨-, C', hC'⟩ := owns_block h.out k e.symm
    rw [hC] at hC'
    cases hC'
  have hlen : (t ++ [x]).length = t.length + 1 := by simp
  refine ⟨A, c, w', hr, ⟨?_, fun i hi => ?_, fun i j hi hj e => ?_, owns_keep h.par fun k hk => ?_, owns_keep h.que fun k hk => ?_, fun i hi => ?_, fun i hi => ?_, h.pq⟩, hgr⟩
  · rw [hlen]
    have e : ((List.range (t.length + 1)).map fun i => (.slice (some ⟨(if i = t.length then g else bl i), 0, none⟩) (Tb.row (t ++ [x]) i).length (if i = t.length then cap else cs i) : Value)) = (List.range t.length).map (fun i => (.slice (some ⟨bl i, 0, none⟩) (t.row i).length (cs i) : Value)) ++ [.slice (some ⟨g, 0, none⟩) m cap] := by
      rw [List.range_succ, List.map_append]
      refine congr (congrArg (fun a b : List Value => a ++ b) ?_) ?_
      · refine List.map_congr_left fun i hi => ?_
        have hi' : i < t.length := List.mem_range.1 hi
        rw [if_neg (by omega), if_neg (by omega), row_append, if_pos hi']
      · rw [List.map_cons, List.map_nil, if_pos rfl, if_pos rfl, row_append, if_neg (Nat.lt_irrefl _), if_pos rfl, hm]
    rw [e]
    exact ho
  · rw [hlen] at hi
    by_cases e : i = t.length
    · subst e
      obtain ⟨C, hC, -⟩ := id hx
      simp only [if_true, row_append, Nat.lt_irrefl, if_false]
      exact ⟨hg, hx.keep (hne _ C hC), by omega, by omega⟩
    · have hi' : i < t.length := by omega
      obtain ⟨a, b, d⟩ := h.row i hi'
      obtain ⟨C, hC, -⟩ := id b
      simp only [if_neg e, row_append, if_pos hi']
      exact ⟨a, b.keep (hne _ C hC), d⟩
  · rw [hlen] at hi hj
    by_cases e1 : i = t.length
    · by_cases e2 : j = t.length
      · omega
      · simp only [if_pos e1, if_neg e2] at e
        exact absurd e.symm (hn j (by omega))
    · by_cases e2 : j = t.length
      · simp only [if_neg e1, if_pos e2] at e
        exact absurd e (hn i (by omega))
      · simp only [if_neg e1, if_neg e2] at e
        exact h.inj i j (by omega) (by omega) e
  · obtain ⟨-, C, hC⟩ := owns_block h.par k hk
    exact hne k C hC
  · obtain ⟨-, C, hC⟩ := owns_block h.que k hk
    exact hne k C hC
  · rw [hlen] at hi
    by_cases e : i = t.length
    · simp only [if_pos e]; exact hp
    · simp only [if_neg e]; exact h.sepP i (by omega)
  · rw [hlen] at hi
    by_cases e : i = t.length
    · simp only [if_pos e]; exact hq
    · simp only [if_neg e]; exact h.sepQ i (by omega)
end
/-- what each operation of the region that adds a parent has brought -/
def ParG (base N : Nat) (t : Tb) (q : List Nat) (P : List Int) (b : Nat) (vr vp vq : Value) (bl cs : Nat → Nat) : Nat → Value → World → Prop
  | 10, v, w => ∃ h, v = .slice (some ⟨h, 0, none⟩) 1 1 ∧ N ≤ h ∧ w.heap[h]? = some (.cells #[.int .i64 (P.length : Int)] 3 (0, 0))
  | 11, v, w => ∃ A c, v = .slice A (P.length + 1) c ∧ CoreN base w t q (P ++ [(P.length : Int)]) vr v vq bl cs
  | i, v, _ => v = ([.pointer (some ⟨b, 0, none⟩), .pointer (some ⟨b, 0, none⟩), .pointer (some ⟨b, 0, none⟩), .pointer (some ⟨b, 1, none⟩), vp, .pointer (some ⟨b, 0, none⟩), .pointer (some ⟨b, 0, none⟩), .pointer (some ⟨b, 0, none⟩), vr, .int .i64 (P.length : Int), undef, undef, .pointer (some ⟨b, 0, none⟩), .pointer (some ⟨b, 1, none⟩), undef] : List Value).getD i undef
theorem ParG.keep {base N b : Nat} {t : Tb} {q : List Nat} {P : List Int} {vr vp vq : Value} {bl cs : Nat → Nat} : ∀ (i j : Nat) (v : Value) (w w' : World), i < 15 → j < 15 → i ≠ j → Still N 11 i w w' → ParG base N t q P b vr vp vq bl cs j v w → ParG base N t q P b vr vp vq bl cs j v w' := by
  intro i j v w w' hi hj hne hS h
  have hk : ∀ (g : Nat) (o : Obj), N ≤ g → w.heap[g]? = some o → w'.heap[g]? = some o := fun g o hg ho => (hS.1 g hg (Array.getElem?_eq_some_iff.1 ho).1).trans ho
  have hcases : j = 10 ∨ j = 11 ∨ (j ≠ 10 ∧ j ≠ 11) := by omega
  rcases hcases with rfl | rfl | ⟨h1, h2⟩
  · obtain ⟨g, e, hg, hc⟩ := h
    exact ⟨g, e, hg, hk g _ hg hc⟩
  · obtain ⟨A, c, e, hC⟩ := h
    exact ⟨A, c, e, hC.keep fun k C e0 _ hC' he => hS.2 hne k C e0 hC' he⟩
  · unfold ParG at h ⊢
    split at h <;> first | contradiction | exact h
/-- a state while a parent joins, beside a row that waits -/
structure ParT (base N b lim gx : Nat) (x : List Int) (w : World) (s : St) (t : Tb) (P : List Int) (vr vp vq : Value) (bl cs : Nat → Nat) (f : Bool) (p q : Bool) (W : World) : Prop where
  box : q = false → BoxR b lim W s vr vp vq f ∧ (p = false → CoreN base W t s.q P vr vp vq bl cs)
  bel : Kf base w W
  siz : N ≤ W.heap.size
  row : XsAt W gx x
  done : q = true → ∃ A c, BoxR b lim W s vr (.slice A (P.length + 1) c) vq f ∧ CoreN base W t s.q (P ++ [(P.length : Int)]) vr (.slice A (P.length + 1) c) vq bl cs
section
variable {base N b lim gx : Nat} {x : List Int} {w W W' : World} {s : St} {t : Tb} {P : List Int} {vr vp vq : Value} {bl cs : Nat → Nat} {f : Bool} {p q : Bool}
theorem ParT.below (h : ParT base N b lim gx x w s t P vr vp vq bl cs f p q W) (hq : q = false) (hbw : base ≤ w.heap.size) (hb : Below W.heap.size W W') : ParT base N b lim gx x w s t P vr vp vq bl cs f p q W' :=
  ⟨fun _ => ⟨(h.box hq).1.below hb, fun hp => ((h.box hq).2 hp).below hb⟩, h.bel.trans (Kf.of hb (Nat.le_trans hbw h.bel.1.size)), Nat.le_trans h.siz hb.size, h.row.below hb, fun e => by rw [hq] at e; cases e⟩
theorem ParT.app (h : ParT base N b lim gx x w s t P vr vp vq bl cs f p q W) (hp : p = false) (hq : q = false) (hbw : base ≤ w.heap.size) (hgr : W.grownBy W' vp.ownBlock) (hvr : ∀ r, vp.ownBlock = some r → base ≤ r ∧ r ≠ b ∧ r ≠ gx) : ParT base N b lim gx x w s t P vr vp vq bl cs f true q W' :=
  ⟨fun _ => ⟨(h.box hq).1.grown hgr (fun e => (hvr b e).2.1 rfl), fun e => (by cases e)⟩, h.bel.grown hgr (Nat.le_trans hbw h.bel.1.size) (owns_kf ((h.box hq).2 hp).par (by decide)), Nat.le_trans h.siz hgr.size, h.row.grown hgr (fun e => (hvr gx e).2.2 rfl), fun e => by rw [hq] at e; cases e⟩
theorem xs_box {w : World} {b g k : Nat} {C0 : Array Value} {x : List Int} (h : XsAt w g x) (hb : w.heap[b]? = some (.cells C0 131 (0, 0))) (v : Value) : XsAt (w.setCell ⟨b, k, none⟩ v) g x :=
  h.keep (Below.heap_setCell w ⟨b, k, none⟩ v g (fun e => by
    obtain ⟨C, hC, -⟩ := h
    have e' : g = b := e
    rw [e', hb] at hC
    cases hC))
theorem ParT.fin {A : Option Addr} {c : Nat} (h : ParT base N b lim gx x w s t P vr vp vq bl cs f p q W) (hq : q = false) (hb : base ≤ b) (hC : CoreN base W t s.q (P ++ [(P.length : Int)]) vr (.slice A (P.length + 1) c) vq bl cs) : ParT base N b lim gx x w s t P vr vp vq bl cs f p true (W.setCell ⟨b, 1, none⟩ (.slice A (P.length + 1) c)) :=
  ⟨fun e => (by cases e), h.bel.setCell hb ⟨_, 131, (h.box hq).1.box, by decide⟩ _, by rw [World.size_setCell]; exact h.siz, xs_box h.row (h.box hq).1.box _, fun _ => ⟨A, c, (h.box hq).1.upd1 _ rfl rfl, hC.other (h.box hq).1.box (by decide) (by decide) 1 _⟩⟩
theorem par_ne {base g m : Nat} {w : World} {vp : Value} {P : List Int} (h : OwnI base w vp P) (hp : 0 < P.length) (h0 : 0 ≤ P.getD 0 0) (hx : XsAt w g (List.replicate m (-1))) (hm : 1 ≤ m) : vp.ownBlock ≠ some g := fun e => by
  obtain ⟨g', c', rfl, -, -, hc, -⟩ := ownI_cell h hp
  obtain rfl : g' = g := Option.some.inj e
  have h1 := hc 0 hp
  have h2 := hx.cell (k := 0) (by simp; omega)
  rw [h2] at h1
  have h3 : (List.replicate m (-1 : Int)).getD 0 0 = -1 := by
    rw [List.getD_eq_getElem?_getD, List.getElem?_replicate, if_pos (by omega)]
    rfl
  rw [h3] at h1
  injection h1 with h1
  injection h1 with _ h1
  omega
end
end Go.Proofs
namespace Go.Proofs
open Go.RowKit Go.Shelf Go.Proofs.Ct Go.Maps
theorem xs_own {base : Nat} {w : World} {g n c : Nat} {xs : List Int} (h : OwnI base w (.slice (some ⟨g, 0, none⟩) n c) xs) (h0 : 0 < xs.length) : XsAt w g xs ∧ base ≤ g ∧ xs.length ≤ c ∧ c ≤ 9223372036854775807 := by
  obtain ⟨hl, h⟩ := h
  rcases h with ⟨-, h1⟩ | ⟨g', cap, cur, e, hb, hc, h1, hm, hs, ht⟩
  · omega
  · injection e with e1 e2 e3
    injection e1 with e1
    injection e1 with e1
    subst e1 e3
    refine ⟨⟨cur, hc, by omega, fun k hk => ?_⟩, hb, h1, by simpa [maxLen] using hm⟩
    have h2 : (cur.toList.take (xs.length * 1))[k]? = (ints xs)[k]? := by rw [ht]
    rw [List.getElem?_take, if_pos (by omega)] at h2
    simpa [ints, hk, List.getD_eq_getElem?_getD] using h2
end Go.Proofs
namespace Go.Proofs
open Go.RowKit Go.Shelf Go.Proofs.Ct Go.Maps
theorem StP.below {base b m lim : Nat} {w w' : World} {s : St} (hS : StP base b m lim w s) (hb : Below w.heap.size w w') : StP base b m lim w' s := by
  obtain ⟨h, P, vr, vp, vq, bl, cs, hB, hC⟩ := hS
  exact ⟨h, P, vr, vp, vq, bl, cs, hB.below hb, hC.below hb⟩
/-- what a scan hands back -/
def openV : Option (Nat × Nat) → Value
  | none => .tuple #[.int .i64 0, .int .i64 0, .bool false]
  | some (f, c) => .tuple #[.int .i64 (f : Int), .int .i64 (c : Int), .bool true]
end Go.Proofs
namespace Go.Proofs.Ct
end Go.Proofs.Ct
namespace Go.Proofs
open Go.RowKit Go.Shelf Go.Proofs.Ct Go.Maps
def openR (o : Int × Int × Bool × Bool) : Value := .tuple #[.int .i64 o.1, .int .i64 o.2.1, .bool o.2.2.1, .bool o.2.2.2]
end Go.Proofs
namespace Go.Proofs
open Go.RowKit Go.Shelf Go.Proofs.Ct Go.Maps
/-- the rows, counted in memory -/
def rowsIn (b : Nat) (w : World) : Nat := match w.cell? ⟨b, 2, none⟩ with
  | some (.slice _ n _) => n
  | _ => 0
theorem StP.rowsIn {base b m lim : Nat} {w : World} {s : St} (h : StP base b m lim w s) : rowsIn b w = s.t.length := by
  obtain ⟨-, P, vr, vp, vq, bl, cs, hB, hC⟩ := h
  obtain ⟨A, c, rfl⟩ := owns_form hC.out
  unfold Go.Proofs.rowsIn
  rw [hB.cells.2.2.1]
end Go.Proofs
namespace Go.Proofs
open Go.RowKit Go.Shelf Go.Proofs.Ct Go.Maps
namespace Ct
end Ct
theorem StP.rows {base b m lim : Nat} {w : World} {s : St} (h : StP base b m lim w s) : ∃ A c, w.cell? ⟨b, 2, none⟩ = some (.slice A s.t.length c) := by
  obtain ⟨-, P, vr, vp, vq, bl, cs, hB, hC⟩ := h
  obtain ⟨A, c, rfl⟩ := owns_form hC.out
  exact ⟨A, c, hB.cells.2.2.1⟩
/-- the lists of words that are handed in, whatever the call has written since -/
def Words (base : Nat) (w : World) (v : Value) (l : List W) : Prop := ∃ w0, w0.heap.size = base ∧ Tab w0 v l ∧ Below base w0 w
theorem Words.tab {base : Nat} {w : World} {v : Value} {l : List W} (h : Words base w v l) {W : World} (hb : Below base w W) : Tab W v l := by
  obtain ⟨w0, rfl, ht, h0⟩ := h
  exact kept_tab.below ht (h0.trans hb)
theorem Words.at_ {base : Nat} {w : World} {v : Value} {l : List W} (h : Words base w v l) {k : Nat} (hk : k < l.length) : ∃ b o c u, v = .slice (some ⟨b, o, none⟩) l.length c ∧ ∀ W, Below base w W → W.cell? ⟨b, o + k, none⟩ = some u ∧ IntsAt W u (l.getD k []) := by
  obtain ⟨w0, rfl, ht, h0⟩ := h
  obtain ⟨A, c, rfl, -, -, h3⟩ := ht.open_
  obtain ⟨b, o, rfl, h4⟩ := h3 (by omega)
  obtain ⟨u, hu, hI⟩ := h4 k hk
  exact ⟨b, o, c, u, rfl, fun W hW => ⟨((h0.trans hW).cell (p := ⟨b, o + k, none⟩) (World.block_lt_of_cell? w0 _ hu)).trans hu, kept_ints.below hI (h0.trans hW)⟩⟩
end Go.Proofs
namespace Go.Proofs
open Go.RowKit Go.Shelf Go.Proofs.Ct Go.Maps
theorem StR.live {base b lim : Nat} {w : World} {s : St} (hS : StR base b lim w s) {r : Nat} (hr : r < s.t.length) : ∃ (y gp cp : Nat), w.cell? ⟨b, 1, none⟩ = some (.slice (some ⟨gp, 0, none⟩) s.t.length cp) ∧ w.cell? ⟨gp, r, none⟩ = some (.int .i64 (y : Int)) ∧ (y = r ↔ s.rp r = r) := by
  obtain ⟨P, gp, cp, c1, hR, hc⟩ := hS.par hr
  obtain ⟨y, hy, -, -, hyi⟩ := (hR.root r hr).parent
  have hck := hc r hr
  rw [hy] at hck
  exact ⟨y, gp, cp, c1, hck, hyi⟩
end Go.Proofs
namespace Go.Proofs.Ct
/-- the numbers of the live cosets below k -/
def nmL (s : St) (k : Nat) : List Int := (List.range s.t.length).map fun i => if i < k ∧ s.rp i = i then (num s i : Int) else 0
theorem length_nmL (s : St) (k : Nat) : (nmL s k).length = s.t.length := by simp [nmL]
theorem nmL_getD (s : St) (k : Nat) {i : Nat} (h : i < s.t.length) : (nmL s k).getD i 0 = if i < k ∧ s.rp i = i then (num s i : Int) else 0 := by
  unfold nmL
  simp [List.getD_eq_getElem?_getD, h]
theorem nmL_zero (s : St) : nmL s 0 = List.replicate s.t.length 0 := getD_ext (d := 0) (by simp [length_nmL]) fun i hi => by
  rw [length_nmL] at hi
  rw [nmL_getD s 0 hi, if_neg (by omega)]
  simp [List.getD_eq_getElem?_getD, hi]
theorem nmL_live {s : St} {k : Nat} (h : k < s.t.length) (hl : s.rp k = k) : nmL s (k + 1) = (nmL s k).set k (num s k) := getD_ext (d := 0) (by simp [length_nmL]) fun i hi => by
  rw [length_nmL] at hi
  rw [nmL_getD s _ hi, getD_set, length_nmL]
  by_cases e : k = i
  · subst e; rw [if_pos ⟨by omega, hl⟩, if_pos ⟨rfl, h⟩]
  · rw [if_neg (fun h' : k = i ∧ k < s.t.length => e h'.1), nmL_getD s _ hi]
    by_cases h2 : i < k ∧ s.rp i = i
    · rw [if_pos h2, if_pos ⟨by omega, h2.2⟩]
    · rw [if_neg h2, if_neg (fun h' => h2 ⟨by omega, h'.2⟩)]
theorem nmL_dead {s : St} {k : Nat} (hl : s.rp k ≠ k) : nmL s (k + 1) = nmL s k := getD_ext (d := 0) (by simp [length_nmL]) fun i hi => by
  rw [length_nmL] at hi
  rw [nmL_getD s _ hi, nmL_getD s _ hi]
  by_cases h2 : i < k ∧ s.rp i = i
  · rw [if_pos h2, if_pos ⟨by omega, h2.2⟩]
  · rw [if_neg h2, if_neg (fun h' => h2 ⟨by
      rcases Nat.lt_or_ge i k with h3 | h3
      · exact h3
      · obtain rfl : i = k := by omega
        exact absurd h'.2 hl, h'.2⟩)]
/-- the rows of the live cosets below k -/
def tabTo (s : St) (k : Nat) : Tb := (livTo s k).map fun x => (s.t.row x).map fun v => (num s v.toNat : Int)
theorem tabTo_live {s : St} {k : Nat} (hl : s.rp k = k) : tabTo s (k + 1) = tabTo s k ++ [(s.t.row k).map fun v => (num s v.toNat : Int)] := by
  unfold tabTo
  rw [livTo_succ, if_pos hl, List.map_append]
  rfl
theorem tabTo_dead {s : St} {k : Nat} (hl : s.rp k ≠ k) : tabTo s (k + 1) = tabTo s k := by
  unfold tabTo
  rw [livTo_succ, if_neg hl]
theorem length_tabTo (s : St) (k : Nat) : (tabTo s k).length = (livTo s k).length := by simp [tabTo]
/-- a list whose first c elements are turned -/
def mixTo (f : Int → Int) (x : List Int) (c : Nat) : List Int := (x.take c).map f ++ x.drop c
theorem length_mix (f : Int → Int) (x : List Int) (c : Nat) : (mixTo f x c).length = x.length := by simp [mixTo]; omega
theorem mix_zero (f : Int → Int) (x : List Int) : mixTo f x 0 = x := by simp [mixTo]
theorem mix_all (f : Int → Int) (x : List Int) : mixTo f x x.length = x.map f := by simp [mixTo]
theorem mix_getD (f : Int → Int) (x : List Int) (c : Nat) {i : Nat} (h : i < x.length) : (mixTo f x c).getD i 0 = if i < c then f (x.getD i 0) else x.getD i 0 := by
  unfold mixTo
  rw [List.getD_eq_getElem?_getD, List.getElem?_append]
  by_cases h2 : i < c
  · rw [if_pos (by simp; omega), if_pos h2]
    simp [List.getD_eq_getElem?_getD, h, h2]
  · rw [if_neg (by simp; omega), if_neg h2]
    simp [List.getD_eq_getElem?_getD, Nat.min_eq_left (by omega : c ≤ x.length), show c + (i - c) = i by omega]
theorem mix_set (f : Int → Int) (x : List Int) {c : Nat} (h : c < x.length) : mixTo f x (c + 1) = (mixTo f x c).set c (f (x.getD c 0)) := getD_ext (d := 0) (by simp [length_mix]) fun i hi => by
  rw [length_mix] at hi
  rw [mix_getD f x _ hi, getD_set, length_mix]
  by_cases e : c = i
  · subst e; rw [if_pos (by omega), if_pos ⟨rfl, h⟩]
  · rw [if_neg (fun h' : c = i ∧ c < x.length => e h'.1), mix_getD f x _ hi]
    by_cases h2 : i < c
    · rw [if_pos h2, if_pos (by omega)]
    · rw [if_neg h2, if_neg (by omega)]
end Go.Proofs.Ct
namespace Go.Proofs
open Go.RowKit Go.Shelf Go.Proofs.Ct Go.Maps
theorem OutSt2.set {e : TypeId} (he : e ≠ 3) {F : Nat → Prop} {w0 wr : World} {vout vr : Value} {rows : List (List Int)} {x : List Int} (h : OutSt2 e F w0 wr vout vr rows x) {g k : Nat} (hg : vr.ownBlock = some g) (hk : k < x.length) (z : Int) : OutSt2 e F w0 (wr.setCell ⟨g, k, none⟩ (.int .i64 z)) vout vr rows (x.set k z) := by
  obtain ⟨h1, C, hC⟩ := owns_block h.row g hg
  refine ⟨h.st.grown (grown_setCell wr g k _) fun r hr => ?_, ownI_set h.row hg hk z, h.ap⟩
  obtain rfl : g = r := Option.some.inj hr
  refine ⟨h1, h.ap g hg, fun e' => ?_⟩
  obtain ⟨-, C', hC'⟩ := h.st.out.block g e'
  rw [hC] at hC'
  injection hC' with h5
  injection h5 with _ h6 _
  exact he h6.symm
/-- the rows of a state -/
theorem StP.rowAt {g base b m lim : Nat} {w : World} {s : St} (hI : Inv g s) (hn : s.t.length ≤ 1000000) (h : StP base b m lim w s) {r : Nat} (hr : r < s.t.length) : ∃ gr cr br k, w.cell? ⟨b, 2, none⟩ = some (.slice (some ⟨gr, 0, none⟩) s.t.length cr) ∧ w.cell? ⟨gr, r, none⟩ = some (.slice (some ⟨br, 0, none⟩) (2 * g) k) ∧ IntsAt w (.slice (some ⟨br, 0, none⟩) (2 * g) k) (s.t.row r) := by
  obtain ⟨-, P, vr, vp, vq, bl, cs, hB, hC⟩ := h
  obtain ⟨-, hX, h1, h2⟩ := hC.row r hr
  have hlen := hI.len r hr
  have hfit : Fits (s.t.row r) := fun x hx => by
    obtain ⟨c, hc, rfl⟩ := List.mem_iff_getElem.1 hx
    have := hI.bd r hr c (by omega)
    unfold Tb.at at this
    rw [List.getD_eq_getElem?_getD, List.getElem?_eq_getElem hc] at this
    simp at this
    omega
  obtain ⟨hl, ho⟩ := hC.out
  rcases ho with ⟨-, h0⟩ | ⟨gr, cap, cur, rfl, hb, hCr, h3, hm, hs, ht⟩
  · omega
  · refine ⟨gr, cap, bl r, cs r, hB.cells.2.2.1, ?_, hX.ints hlen (by omega) h2 hfit⟩
    rw [cell_of_row _ _ _ _ _ _ hCr]
    have h2 : (cur.toList.take (s.t.length * 1))[r]? = ((List.range s.t.length).map fun i => Value.slice (some ⟨bl i, 0, none⟩) (s.t.row i).length (cs i))[r]? := by rw [ht]
    rw [List.getElem?_take, if_pos (by omega)] at h2
    simpa [hr, hlen] using h2
end Go.Proofs
namespace Go.Proofs
open Go.RowKit Go.Shelf Go.Proofs.Ct Go.Maps
theorem xs_made (w : World) (s : St) : XsAt (w.alloc (.cells (Array.replicate s.t.length (.int .i64 0)) 3)) w.heap.size (nmL s 0) := by
  refine ⟨_, heap_alloc_new w _, by simp [length_nmL], fun k hk => ?_⟩
  rw [length_nmL] at hk
  rw [nmL_zero]
  simp [List.getD_eq_getElem?_getD, hk]
theorem fits_tab {g lim : Nat} {s : St} (_hG : Ct.Good g lim s) (hn : s.t.length ≤ 20000) (x : List Int) (hx : ∀ v ∈ x, v.toNat ≤ s.t.length) : Fits (x.map fun v => (num s v.toNat : Int)) := fun z hz => by
  obtain ⟨v, hv, rfl⟩ := List.mem_map.1 hz
  have := livTo_le s v.toNat
  have := hx v hv
  show -9223372036854775808 ≤ ((num s v.toNat : Nat) : Int) ∧ ((num s v.toNat : Nat) : Int) ≤ 9223372036854775807
  unfold num
  omega
end Go.Proofs
namespace Go.Proofs
open Go.RowKit Go.Shelf Go.Proofs.Ct Go.Maps
theorem neq_nil (w : World) : (binOp .neq 20 .nilIface .nilIface).run Try.prog w = .ok (.bool false) w := by kernel_rfl
/-- the cells of the three results: the table at q, the numbers at q + 1, the error at q + 1 + 1 -/
structure ResC (q : Nat) (w : World) (v : Value) (a b c e : Int) : Prop where
  c0 : w.cell? ⟨q, 0, none⟩ = some v
  c1 : w.cell? ⟨q + 1, 0, none⟩ = some (.int .i64 a)
  c2 : w.cell? ⟨q + 1, 1, none⟩ = some (.int .i64 b)
  c3 : w.cell? ⟨q + 1, 2, none⟩ = some (.int .i64 c)
  c4 : w.cell? ⟨q + 1 + 1, 0, none⟩ = some (.int .i64 e)
  f0 : w.frozen? ⟨q, 0, none⟩ = false
  f1 : w.frozen? ⟨q + 1, 0, none⟩ = false
  f2 : w.frozen? ⟨q + 1, 1, none⟩ = false
  f3 : w.frozen? ⟨q + 1, 2, none⟩ = false
  f4 : w.frozen? ⟨q + 1 + 1, 0, none⟩ = false
theorem ResC.lt {q : Nat} {w : World} {v : Value} {a b c e : Int} (h : ResC q w v a b c e) : q + 1 + 1 < w.heap.size := World.block_lt_of_cell? w _ h.c4
theorem ResC.below {q : Nat} {w w' : World} {v : Value} {a b c e : Int} (h : ResC q w v a b c e) {B : Nat} (hq : q + 1 + 1 < B) (hb : Below B w w') : ResC q w' v a b c e :=
  ⟨(hb.cell (p := ⟨q, 0, none⟩) (by show q < B; omega)).trans h.c0, (hb.cell (p := ⟨q + 1, 0, none⟩) (by show q + 1 < B; omega)).trans h.c1, (hb.cell (p := ⟨q + 1, 1, none⟩) (by show q + 1 < B; omega)).trans h.c2, (hb.cell (p := ⟨q + 1, 2, none⟩) (by show q + 1 < B; omega)).trans h.c3, (hb.cell (p := ⟨q + 1 + 1, 0, none⟩) hq).trans h.c4,
   (hb.frozen (p := ⟨q, 0, none⟩) (by show q < B; omega)).trans h.f0, (hb.frozen (p := ⟨q + 1, 0, none⟩) (by show q + 1 < B; omega)).trans h.f1, (hb.frozen (p := ⟨q + 1, 1, none⟩) (by show q + 1 < B; omega)).trans h.f2, (hb.frozen (p := ⟨q + 1, 2, none⟩) (by show q + 1 < B; omega)).trans h.f3, (hb.frozen (p := ⟨q + 1 + 1, 0, none⟩) hq).trans h.f4⟩
/-- all five cells written -/
def setR (q : Nat) (w : World) (v : Value) (a b c e : Int) : World := ((((w.setCell ⟨q, 0, none⟩ v).setCell ⟨q + 1, 0, none⟩ (.int .i64 a)).setCell ⟨q + 1, 1, none⟩ (.int .i64 b)).setCell ⟨q + 1, 2, none⟩ (.int .i64 c)).setCell ⟨q + 1 + 1, 0, none⟩ (.int .i64 e)
theorem cell_set {w : World} {a p : Addr} {u : Value} (h : w.cell? p = some u) (v : Value) : (w.setCell a v).cell? p = some (if a = p then v else u) := by
  split
  · rename_i e; subst e; exact World.cell?_setCell_same _ _ _ h
  · rename_i e; rw [World.cell?_setCell_other _ _ _ _ e]; exact h
theorem ResC.set {q : Nat} {w : World} {v : Value} {a b c e : Int} (h : ResC q w v a b c e) (v' : Value) (a' b' c' e' : Int) : ResC q (setR q w v' a' b' c' e') v' a' b' c' e' := by
  obtain ⟨c0, c1, c2, c3, c4, f0, f1, f2, f3, f4⟩ := h
  unfold setR
  refine ⟨(cell_set (cell_set (cell_set (cell_set (cell_set c0 _) _) _) _) _).trans ?_, (cell_set (cell_set (cell_set (cell_set (cell_set c1 _) _) _) _) _).trans ?_, (cell_set (cell_set (cell_set (cell_set (cell_set c2 _) _) _) _) _).trans ?_, (cell_set (cell_set (cell_set (cell_set (cell_set c3 _) _) _) _) _).trans ?_, (cell_set (cell_set (cell_set (cell_set (cell_set c4 _) _) _) _) _).trans ?_, ?_, ?_, ?_, ?_, ?_⟩ <;> simp [f0, f1, f2, f3, f4]
theorem setR_below {B q : Nat} {w w' : World} (h : Below B w w') (hq : B ≤ q) (v : Value) (a b c e : Int) : Below B w (setR q w' v a b c e) :=
  ((((h.setCell (p := ⟨q, 0, none⟩) hq v).setCell (p := ⟨q + 1, 0, none⟩) (by show B ≤ q + 1; omega) _).setCell (p := ⟨q + 1, 1, none⟩) (by show B ≤ q + 1; omega) _).setCell (p := ⟨q + 1, 2, none⟩) (by show B ≤ q + 1; omega) _).setCell (p := ⟨q + 1 + 1, 0, none⟩) (by show B ≤ q + 1 + 1; omega) _
end Go.Proofs
namespace Go.Proofs
open Go.RowKit Go.Shelf Go.Proofs.Ct Go.Maps
/-- are the words and the limit refused? -/
def badArgs (g : Nat) (sub : List W) (limit : Int) : Bool := decide (100 < sub.length) || decide (4000 < sumTo sub sub.length) || (sub.any fun w => w.any (letBad g)) || decide (limit < 1) || decide (20000 < limit)
def enumE (g : Int) (rels sub : List W) (limit : Int) : Tb × (Int × Int) × Int :=
  if presE g rels ≠ 0 then ([], (0, 0), presE g rels) else
  if badArgs g.toNat sub limit = true then ([], (0, 0), 2) else
  match runS (2 * g.toNat) limit.toNat rels sub with
  | none => ([], (0, 0), 12)
  | some s => ((stdE g (tabS s) 0).1, ((s.t.length : Int), s.most), 0)
def EnumPost (g : Int) (rels sub : List W) (limit : Int) (w : World) (e : Ending) (w' : World) : Prop :=
  (∃ u, e = .returned (.tuple #[u, .agg #[.int .i64 (enumE g rels sub limit).2.1.1, .int .i64 (enumE g rels sub limit).2.1.2, .int .i64 0], .int .i64 (enumE g rels sub limit).2.2]) ∧ Tab w' u (enumE g rels sub limit).1) ∧ Below w.heap.size w w'
theorem EnumPost.err {g : Int} {rels sub : List W} {limit : Int} {w w' : World} {x : Int} (h : enumE g rels sub limit = ([], (0, 0), x)) (hb : Below w.heap.size w w') : EnumPost g rels sub limit w (.returned (.tuple #[.slice none 0 0, .agg #[.int .i64 0, .int .i64 0, .int .i64 0], .int .i64 x])) w' := by
  unfold EnumPost
  rw [h]
  exact ⟨⟨_, rfl, tab_nil⟩, hb⟩
end Go.Proofs
namespace Go.Proofs
open Go.RowKit Go.Shelf Go.Proofs.Ct Go.Maps
/-- the state that Begin lays -/
def made124 (w : World) (lim : Nat) : World := w.alloc (.cells #[.slice none 0 0, .slice none 0 0, .slice none 0 0, .int .i64 (lim : Int), .int .i64 0, .int .i64 0, .bool false] 131)
theorem StR.made (w : World) (lim : Nat) : StR w.heap.size w.heap.size lim (made124 w lim) nilS :=
  ⟨Nat.le_refl _, [], .slice none 0 0, .slice none 0 0, .slice none 0 0, fun _ => 0, fun _ => 0, false, ⟨heap_alloc_new w _⟩, ⟨World.ownsRow_nil _ _ _ _, fun i hi => absurd hi (Nat.not_lt_zero _), fun i j hi => absurd hi (Nat.not_lt_zero _), World.ownsRow_nil _ _ _ _, World.ownsRow_nil _ _ _ _, fun i hi => absurd hi (Nat.not_lt_zero _), fun i hi => absurd hi (Nat.not_lt_zero _), (fun r hr => by cases hr), ⟨rfl, fun x hx => absurd hx (Nat.not_lt_zero _)⟩⟩⟩
theorem inv_nil (g : Nat) : Inv g nilS := by
  refine ⟨?_, ?_, rfl, ?_, ?_, ?_⟩ <;> intro x hx <;> exact absurd hx (Nat.not_lt_zero _)
/-- the error of the arguments -/
def givenE (g : Int) (rels sub : List W) (limit : Int) : Int := if presE g rels ≠ 0 then presE g rels else if badArgs g.toNat sub limit = true then 2 else 0
theorem sumTo_le' {sub : List W} (h : ∀ j, (sub.getD j []).length ≤ 100000) : ∀ k, sumTo sub k ≤ k * 100000
  | 0 => Nat.zero_le _
  | k + 1 => by
    have := sumTo_le' h k
    have := h k
    show sumTo sub k + (sub.getD k []).length ≤ (k + 1) * 100000
    omega
set_option maxRecDepth 100000 in
set_option maxHeartbeats 4000000 in
theorem given87_any (w : World) (vr vs : Value) (g : Int) (rels sub : List W) (limit : Int) (hR : Tab w vr rels) (hS : Tab w vs sub) (hsm : ∀ j, (sub.getD j []).length ≤ 100000) (hsm2 : ∀ j, (rels.getD j []).length ≤ 100000) (hsl : sub.length ≤ 1000000) :
    Calls Try.prog 111 #[.agg #[.int .i64 g, vr], vs, .int .i64 limit] w fun e w' => e = .returned (.int .i64 (givenE g rels sub limit)) ∧ Below w.heap.size w w' := by
  obtain ⟨Ar, cr, rfl⟩ := Tab.form hR
  obtain ⟨As, cs, rfl⟩ := Tab.form hS
  have HP : Hid (∀ W, W = w.alloc (.cells #[.int .i64 g, .slice Ar rels.length cr] 40) → Below w.heap.size w W ∧ W.heap[w.heap.size]? = some (.cells #[.int .i64 g, .slice Ar rels.length cr] 40 (0, 0)) ∧ W.heap.size = w.heap.size + 1) := Lib.hid fun W h => by
    subst h
    exact ⟨(Below.refl _ _).alloc (Nat.le_refl _) _, heap_alloc_new w _, by simp⟩
  have HRR := Lib.hid hR
  have HSS := Lib.hid hS
  have H95 : Hid (∀ W, Tab W (.slice Ar rels.length cr) rels → Calls Try.prog 119 #[.agg #[.int .i64 g, .slice Ar rels.length cr]] W fun e w' => e = .returned (.int .i64 (presE g rels)) ∧ Below W.heap.size W w') := Lib.hid fun W h => pcheck95_any W _ g rels h hsm2
  clear hR hS
  have HGD : Hid (givenE g rels sub limit = if presE g rels ≠ 0 then presE g rels else if badArgs g.toNat sub limit = true then 2 else 0) := Lib.hid rfl
  generalize givenE g rels sub limit = res at *
  go_enter Try.func111, Try.ntmps111
  go_wp2_with fail
  generalize hw0 : w.alloc (.cells #[.int .i64 g, .slice Ar rels.length cr] 40) = w0 at *
  obtain ⟨hb0, hbx, hsz⟩ := HP.out w0 rfl
  have HB0 := Lib.hid hb0
  have HBX := Lib.hid hbx
  have HSZ := Lib.hid hsz
  have HCE : Hid (∀ W, Below w0.heap.size w0 W → W.cell? ⟨w.heap.size, 0, none⟩ = some (.int .i64 g)) := Lib.hid fun W h => (cell_of2 ((h.block _ (by omega)).trans hbx)).1
  have HT : Hid (∀ W, Below w0.heap.size w0 W → Tab W (.slice As sub.length cs) sub) := Lib.hid fun W h => kept_tab.below HSS.out (hb0.trans (h.mono hb0.size))
  clear hw0 hb0 hbx hsz HP
  have H95' := Lib.hid (H95.out w0 (kept_tab.below HRR.out HB0.out))
  clear H95
  by_cases he : presE g rels = 0
  · obtain ⟨gn, rfl, hg1, hg16, hrl, hrg⟩ := presE_good he
    rw [he, if_neg (by simp), Int.toNat_natCast] at HGD
    rw [he] at H95'
    clear he hrg
    have HBAD : Hid (badArgs gn sub limit = true → res = 2) := Lib.hid fun h => by rw [HGD.out, if_pos h]
    have HOK : Hid (badArgs gn sub limit = false → res = 0) := Lib.hid fun h => by rw [HGD.out, if_neg (by rw [h]; simp)]
    clear HGD
    go_wp2_with (first
      | (go_at_call 119; (with_reducible refine H95'.out.mono ?_); rintro e w1 ⟨rfl, hb⟩
         have HB1 := Lib.hid hb
         clear hb))
    go_loopg [8, 9] sub.length (fun n l i wx => ∃ k : Nat, i = .int .i64 (k : Int) ∧ n = sub.length - k ∧ k ≤ sub.length ∧ l = .int .i64 ((sumTo sub k : Nat) : Int) ∧ Hid (∀ j, j < k → ((sub.getD j []).any (letBad gn)) = false) ∧ Hid (Below w0.heap.size w0 wx))
    case atStart => exact ⟨0, rfl, by omega, Nat.zero_le _, rfl, Lib.hid (fun j hj => absurd hj (Nat.not_lt_zero _)), HB1⟩
    case round =>
      clear HB1
      obtain ⟨k, rfl, hgk, hk, rfl, HA, HB1⟩ := hrel
      have HGK := Lib.hid hgk
      clear hgk
      have hk0 : (0 : Int) ≤ (k : Int) := Int.natCast_nonneg _
      have hsk := sumTo_le' hsm k
      have hsk0 : (0 : Int) ≤ ((sumTo sub k : Nat) : Int) := Int.natCast_nonneg _
      have hsk1 : ((sumTo sub k : Nat) : Int) ≤ 100000000000 := by
        have : k * 100000 ≤ 1000000 * 100000 := Nat.mul_le_mul_right _ (by omega)
        omega
      clear hsk
      have HBW := Lib.hid (HB0.out.trans (HB1.out.mono HB0.out.size))
      by_cases hlt : k < sub.length
      · have hltI : (k : Int) < (sub.length : Int) := by omega
        have hT := HT.out _ HB1.out
        obtain ⟨bs, os, rfl, hcell⟩ := hT.cells (by omega)
        obtain ⟨u, hu, hI⟩ := hcell k hlt
        obtain ⟨Au, cu, rfl, hu1, hu2, -⟩ := hI.open_
        have hlu := hsm k
        have hcg := HCE.out _ HB1.out
        have HSU : Hid (sumTo sub (k + 1) = sumTo sub k + (sub.getD k []).length) := Lib.hid rfl
        have HLE : Hid (∀ q, Calls Try.prog 120 #[.int .i64 (gn : Int), .slice Au (sub.getD k []).length cu] (wr.drewN q) fun e w' => e = .returned (.bool (!((sub.getD k []).any (letBad gn)))) ∧ wr.drewN q = w') := Lib.hid fun q => (letters96_any (wr.drewN q) gn _ (sub.getD k []) hg16 hI).mono fun _ _ ⟨h1, h2⟩ => ⟨h1, h2.symm⟩
        have HAN : Hid ((sub.getD k []).any (letBad gn) = true → (sub.any fun w => w.any (letBad gn)) = true) := Lib.hid fun h => List.any_eq_true.2 ⟨sub.getD k [], by rw [List.getD_eq_getElem?_getD, List.getElem?_eq_getElem hlt]; exact List.getElem_mem hlt, h⟩
        cases hbad : (sub.getD k []).any (letBad gn) with
        | true =>
          have HE : Hid (res = 2) := Lib.hid (HBAD.out (by unfold badArgs; rw [HAN.out hbad]; simp))
          rw [hbad] at HLE
          clear hbad HAN
          generalize hgl : (sub.getD k []).length = L at *
          have hl0 : (0 : Int) ≤ (L : Int) := Int.natCast_nonneg _
          have hl1 : (L : Int) ≤ 100000 := by omega
          clear hT hcell hI hu1 hu2 hlu hgl
          go_wp2_with fail
          go_quiet ((go_at_call 120; exact quiet_left (HLE.out _)))
          go_wp2_with fail
          go_ret
          exact ⟨ret_int (by rw [HE.out]), below_drewN HBW.out _⟩
        | false =>
          rw [hbad] at HLE
          have HA2 := Lib.hid (all_succ HA.out hbad)
          clear hbad HAN
          generalize hgl : (sub.getD k []).length = L at *
          have hl0 : (0 : Int) ≤ (L : Int) := Int.natCast_nonneg _
          have hl1 : (L : Int) ≤ 100000 := by omega
          clear hT hcell hI hu1 hu2 hlu hgl
          go_wp2_with fail
          go_quiet ((go_at_call 120; exact quiet_left (HLE.out _)))
          go_wp2_with fail
          go_roundg (sub.length - (k + 1))
          case measure => have := HGK.out; omega
          case rel => exact ⟨k + 1, by go_num, rfl, by omega, by rw [HSU.out]; go_num, HA2, Lib.hid (below_drewN HB1.out _)⟩
      · obtain rfl : k = sub.length := by omega
        clear hlt
        have HNB : Hid ((sub.any fun w => w.any (letBad gn)) = false) := Lib.hid (any_false_ofR HA.out)
        by_cases h1 : (100 : Int) < (sub.length : Int)
        · have HE : Hid (res = 2) := Lib.hid (HBAD.out (by unfold badArgs; simp; omega))
          go_wp2_with fail
          go_ret
          exact ⟨ret_int (by rw [HE.out]), HBW.out⟩
        · by_cases h2 : (4000 : Int) < ((sumTo sub sub.length : Nat) : Int)
          · have HE : Hid (res = 2) := Lib.hid (HBAD.out (by unfold badArgs; simp; omega))
            go_wp2_with fail
            go_ret
            exact ⟨ret_int (by rw [HE.out]), HBW.out⟩
          · by_cases h3 : limit < 1
            · have HE : Hid (res = 2) := Lib.hid (HBAD.out (by unfold badArgs; simp; omega))
              go_wp2_with fail
              go_ret
              exact ⟨ret_int (by rw [HE.out]), HBW.out⟩
            · by_cases h4 : 20000 < limit
              · have HE : Hid (res = 2) := Lib.hid (HBAD.out (by unfold badArgs; simp; omega))
                go_wp2_with fail
                go_ret
                exact ⟨ret_int (by rw [HE.out]), HBW.out⟩
              · have HE : Hid (res = 0) := Lib.hid (HOK.out (by unfold badArgs; rw [HNB.out]; simp; omega))
                go_wp2_with fail
                go_ret
                exact ⟨ret_int (by rw [HE.out]), HBW.out⟩
  · have HE : Hid (res = presE g rels) := Lib.hid (by rw [HGD.out, if_pos he])
    have d1 : (presE g rels != 0) = true := by simpa using he
    clear HGD
    generalize presE g rels = x at *
    clear he
    go_wp2_with (first
      | (go_at_call 119; (with_reducible refine H95'.out.mono ?_); rintro e w1 ⟨rfl, hb⟩
         have HB1 := Lib.hid hb
         clear hb))
    go_ret
    exact ⟨ret_int (by rw [HE.out]), HB0.out.trans (HB1.out.mono HB0.out.size)⟩
end Go.Proofs
namespace Go.Proofs
open Go.RowKit Go.Shelf Go.Proofs.Ct Go.Maps
theorem resC_made (w : World) (x : Array Value) : ResC (w.heap.size + 1) ((((w.alloc (.cells x 40)).alloc (.cells #[.slice none 0 0] 23)).alloc (.cells #[.int .i64 0, .int .i64 0, .int .i64 0] 49)).alloc (.cells #[.int .i64 0] 28)) (.slice none 0 0) 0 0 0 0 := by
  constructor <;> simp [go_sem]
/-- the state that Enumerate lays -/
def made116 (w : World) (g lim : Nat) : World := w.alloc (.cells #[.int .i64 (2 * (g : Int)), .int .i64 (lim : Int), .slice none 0 0, .slice none 0 0, .slice none 0 0, .int .i64 0, .int .i64 0] 123)
theorem StP.made (w : World) (g lim : Nat) : StP w.heap.size w.heap.size (2 * g) lim (made116 w g lim) nilS := by
  refine ⟨Nat.le_refl _, [], .slice none 0 0, .slice none 0 0, .slice none 0 0, fun _ => 0, fun _ => 0, ⟨?_⟩, ⟨World.ownsRow_nil _ _ _ _, fun i hi => absurd hi (Nat.not_lt_zero _), fun i j hi => absurd hi (Nat.not_lt_zero _), World.ownsRow_nil _ _ _ _, World.ownsRow_nil _ _ _ _, fun i hi => absurd hi (Nat.not_lt_zero _), fun i hi => absurd hi (Nat.not_lt_zero _), (fun r hr => by cases hr), ⟨rfl, fun x hx => absurd hx (Nat.not_lt_zero _)⟩⟩⟩
  have := heap_alloc_new w (.cells #[.int .i64 (2 * (g : Int)), .int .i64 (lim : Int), .slice none 0 0, .slice none 0 0, .slice none 0 0, .int .i64 0, .int .i64 0] 123)
  have e : ((2 * g : Nat) : Int) = 2 * (g : Int) := by omega
  rw [e]
  exact this
theorem Words.of {w : World} {v : Value} {l : List W} (h : Tab w v l) {w' : World} (hb : Below w.heap.size w w') : Words w.heap.size w' v l := ⟨w, rfl, h, hb⟩
theorem addr_ne {a b : Addr} (h : a.block ≠ b.block ∨ a.off ≠ b.off) : a ≠ b := fun e => by
  subst e
  rcases h with h | h <;> exact h rfl
theorem ResC.set2 {q : Nat} {w : World} {v : Value} {a b c e : Int} (h : ResC q w v a b c e) (v' : Value) (e' : Int) : ResC q ((w.setCell ⟨q, 0, none⟩ v').setCell ⟨q + 1 + 1, 0, none⟩ (.int .i64 e')) v' a b c e' := by
  obtain ⟨c0, c1, c2, c3, c4, f0, f1, f2, f3, f4⟩ := h
  refine ⟨(cell_set (cell_set c0 _) _).trans ?_, (cell_set (cell_set c1 _) _).trans ?_, (cell_set (cell_set c2 _) _).trans ?_, (cell_set (cell_set c3 _) _).trans ?_, (cell_set (cell_set c4 _) _).trans ?_, ?_, ?_, ?_, ?_, ?_⟩ <;> simp [f0, f1, f2, f3, f4]
theorem TabB.setCell {B : Nat} {w : World} {u : Value} {l : List (List Int)} (h : TabB B w u l) {p : Addr} (hp : p.block < B) (v : Value) : TabB B (w.setCell p v) u l :=
  h.keep (by simp [World.setCell]) fun k h1 _ => Below.heap_setCell w p v k (by omega)
theorem setR_tabB {B q : Nat} {w : World} {u : Value} {l : List (List Int)} (h : TabB B w u l) (h1 : q + 1 < B) (h2 : q + 1 + 1 < B) (v : Value) (a b c e : Int) : TabB B (setR q w v a b c e) u l :=
  ((((h.setCell (p := ⟨q, 0, none⟩) (by show q < B; omega) v).setCell (p := ⟨q + 1, 0, none⟩) h1 _).setCell (p := ⟨q + 1, 1, none⟩) h1 _).setCell (p := ⟨q + 1, 2, none⟩) h1 _).setCell (p := ⟨q + 1 + 1, 0, none⟩) h2 _
/-- what the last statement reads -/
abbrev S16 (q p : Nat) (u r m : Value) (W : World) : Prop := W.cell? ⟨q, 0, none⟩ = some u ∧ W.cell? ⟨p, 2, none⟩ = some r ∧ W.cell? ⟨p, 6, none⟩ = some m ∧ W.cell? ⟨q + 1 + 1, 0, none⟩ = some (.int .i64 0)
theorem S16.drew {q p : Nat} {u r m : Value} {W : World} (h : S16 q p u r m W) : S16 q p u r m W.drew := h
theorem S16.st0 {q p : Nat} {u r m : Value} {W : World} (h : S16 q p u r m W) : S16 q p u r m (W.setCell ⟨q, 0, none⟩ u) :=
  ⟨(cell_set h.1 _).trans (by simp), (cell_set h.2.1 _).trans (by simp), (cell_set h.2.2.1 _).trans (by simp), (cell_set h.2.2.2 _).trans (by simp)⟩
theorem S16.st1 {q p : Nat} {u r m : Value} {W : World} (h : S16 q p u r m W) (a b : Value) (hne : q + 1 ≠ p) : ∀ c : Value, S16 q p u r m (((W.setCell ⟨q + 1, 0, none⟩ a).setCell ⟨q + 1, 1, none⟩ b).setCell ⟨q + 1, 2, none⟩ c) := fun c =>
  ⟨(cell_set (cell_set (cell_set h.1 _) _) _).trans (by simp), (cell_set (cell_set (cell_set h.2.1 _) _) _).trans (by simp), (cell_set (cell_set (cell_set h.2.2.1 _) _) _).trans (by simp), (cell_set (cell_set (cell_set h.2.2.2 _) _) _).trans (by simp)⟩
theorem S16.st2 {q p : Nat} {u r m : Value} {W : World} (h : S16 q p u r m W) : S16 q p u r m (W.setCell ⟨q + 1 + 1, 0, none⟩ (.int .i64 0)) :=
  ⟨(cell_set h.1 _).trans (by simp), (cell_set h.2.1 _).trans (by simp), (cell_set h.2.2.1 _).trans (by simp), (cell_set h.2.2.2 _).trans (by simp)⟩
/-- what Enumerate answers, and in which blocks its table lies -/
def EnumPostB (g : Int) (rels sub : List W) (limit : Int) (w : World) (e : Ending) (w' : World) : Prop :=
  (∃ u, e = .returned (.tuple #[u, .agg #[.int .i64 (enumE g rels sub limit).2.1.1, .int .i64 (enumE g rels sub limit).2.1.2, .int .i64 0], .int .i64 (enumE g rels sub limit).2.2]) ∧ TabB w.heap.size w' u (enumE g rels sub limit).1) ∧ Below w.heap.size w w'
theorem EnumPostB.err {g : Int} {rels sub : List W} {limit : Int} {w w' : World} {x : Int} (h : enumE g rels sub limit = ([], (0, 0), x)) (hb : Below w.heap.size w w') : EnumPostB g rels sub limit w (.returned (.tuple #[.slice none 0 0, .agg #[.int .i64 0, .int .i64 0, .int .i64 0], .int .i64 x])) w' := by
  unfold EnumPostB
  rw [h]
  exact ⟨⟨_, rfl, TabB.nil⟩, hb⟩
theorem EnumPostB.plain {g : Int} {rels sub : List W} {limit : Int} {w w' : World} {e : Ending} (h : EnumPostB g rels sub limit w e w') : EnumPost g rels sub limit w e w' := by
  obtain ⟨⟨u, h1, h2⟩, h3⟩ := h
  exact ⟨⟨u, h1, h2.at_⟩, h3⟩
theorem TabB.low {B B' : Nat} {w : World} {u : Value} {l : List (List Int)} (h : TabB B w u l) (hb : B' ≤ B) : TabB B' w u l := fun w' hk => h w' fun k h1 h2 => hk k (Nat.le_trans hb h1) h2
theorem TabB.belowB {B : Nat} {w w' : World} {u : Value} {l : List (List Int)} (h : TabB B w u l) (hb : Below w.heap.size w w') : TabB B w' u l := h.keep hb.size fun k _ h2 => hb.block k h2
end Go.Proofs
namespace Go.Proofs
open Go.RowKit Go.Shelf Go.Proofs.Ct Go.Maps
/-- the cells of the numbers -/
structure NumC (q : Nat) (w : World) (a b c : Int) : Prop where
  c1 : w.cell? ⟨q, 0, none⟩ = some (.int .i64 a)
  c2 : w.cell? ⟨q, 1, none⟩ = some (.int .i64 b)
  c3 : w.cell? ⟨q, 2, none⟩ = some (.int .i64 c)
  f1 : w.frozen? ⟨q, 0, none⟩ = false
  f2 : w.frozen? ⟨q, 1, none⟩ = false
  f3 : w.frozen? ⟨q, 2, none⟩ = false
theorem NumC.lt {q : Nat} {w : World} {a b c : Int} (h : NumC q w a b c) : q < w.heap.size := World.block_lt_of_cell? w _ h.c1
theorem NumC.below {q : Nat} {w w' : World} {a b c : Int} (h : NumC q w a b c) {B : Nat} (hq : q < B) (hb : Below B w w') : NumC q w' a b c :=
  ⟨(hb.cell (p := ⟨q, 0, none⟩) hq).trans h.c1, (hb.cell (p := ⟨q, 1, none⟩) hq).trans h.c2, (hb.cell (p := ⟨q, 2, none⟩) hq).trans h.c3, (hb.frozen (p := ⟨q, 0, none⟩) hq).trans h.f1, (hb.frozen (p := ⟨q, 1, none⟩) hq).trans h.f2, (hb.frozen (p := ⟨q, 2, none⟩) hq).trans h.f3⟩
def setN (q : Nat) (w : World) (a b c : Int) : World := ((w.setCell ⟨q, 0, none⟩ (.int .i64 a)).setCell ⟨q, 1, none⟩ (.int .i64 b)).setCell ⟨q, 2, none⟩ (.int .i64 c)
theorem NumC.set {q : Nat} {w : World} {a b c : Int} (h : NumC q w a b c) (a' b' c' : Int) : NumC q (setN q w a' b' c') a' b' c' := by
  obtain ⟨c1, c2, c3, f1, f2, f3⟩ := h
  unfold setN
  refine ⟨(cell_set (cell_set (cell_set c1 _) _) _).trans ?_, (cell_set (cell_set (cell_set c2 _) _) _).trans ?_, (cell_set (cell_set (cell_set c3 _) _) _).trans ?_, ?_, ?_, ?_⟩ <;> simp [f1, f2, f3]
theorem setN_below {B q : Nat} {w w' : World} (h : Below B w w') (hq : B ≤ q) (a b c : Int) : Below B w (setN q w' a b c) :=
  ((h.setCell (p := ⟨q, 0, none⟩) hq _).setCell (p := ⟨q, 1, none⟩) hq _).setCell (p := ⟨q, 2, none⟩) hq _
theorem setN_tabB {B q : Nat} {w : World} {u : Value} {l : List (List Int)} (h : TabB B w u l) (h1 : q < B) (a b c : Int) : TabB B (setN q w a b c) u l :=
  ((h.setCell (p := ⟨q, 0, none⟩) h1 _).setCell (p := ⟨q, 1, none⟩) h1 _).setCell (p := ⟨q, 2, none⟩) h1 _
end Go.Proofs
namespace Go.Proofs
open Go.RowKit Go.Shelf Go.Proofs.Ct Go.Maps
theorem ints_blk {w : World} {b : Nat} {xs : List Int} (h : w.heap[b]? = some (.cells (ints xs).toArray 3 (0, 0))) (hf : Fits xs) {n : Nat} (hn : xs.length = n) (hm : n ≤ 1000) : IntsAt w (.slice (some ⟨b, 0, none⟩) n n) xs := by
  subst hn
  have hl : xs.length ≤ 9223372036854775807 := by omega
  refine ⟨⟨_, xs.length, xs.length, rfl, by simp [ints], Nat.le_refl _, by simpa [maxLen] using hl, fun _ => ⟨b, 0, rfl, fun j u hu => ?_⟩⟩, hf⟩
  rw [cell_of_row _ _ _ _ _ _ h, Nat.zero_add]
  simpa using hu
/-- rows in a block -/
theorem tab_blk {w : World} {b : Nat} {us : List Value} {xs : List (List Int)} {e : TypeId} (hb : w.heap[b]? = some (.cells us.toArray e (0, 0))) {n : Nat} (hn : us.length = n) (hl : us.length = xs.length) (hm : us.length ≤ 1000) (h : ∀ i, i < xs.length → IntsAt w (us.getD i undef) (xs.getD i [])) :
    Tab w (.slice (some ⟨b, 0, none⟩) n n) xs := by
  subst hn
  have hl9 : us.length ≤ 9223372036854775807 := by omega
  refine ⟨us, ⟨_, us.length, us.length, rfl, rfl, Nat.le_refl _, by simpa [maxLen] using hl9, fun _ => ⟨b, 0, rfl, fun j u hu => ?_⟩⟩, hl, fun i hi => ?_⟩
  · rw [cell_of_row _ _ _ _ _ _ hb, Nat.zero_add]
    simpa using hu
  · have hi' : i < us.length := by omega
    refine ⟨us.getD i undef, ?_, h i hi⟩
    simp [List.getD_eq_getElem?_getD, hi']
section
variable {o : Oper} {a : Act} {w w' : World} {n : Nat} {v : Value}
end
/-- what a slot of the drawn region holds -/
inductive SP where
  | eq (v : Value) | ints (l : List Int) | tab (l : List (List Int)) | pres (g : Int) (l : List (List Int)) | any
def SP.holds : SP → Value → World → Prop
  | .eq u, v, _ => v = u
  | .ints l, v, w => IntsAt w v l
  | .tab l, v, w => ∃ A c, v = .slice A l.length c ∧ Tab w v l
  | .pres g l, v, w => ∃ A c, v = .agg #[.int .i64 g, .slice A l.length c] ∧ Tab w (.slice A l.length c) l
  | .any, _, _ => True
theorem SP.keep {s : SP} {v : Value} {w w' : World} (h : Below w.heap.size w w') : s.holds v w → s.holds v w' := by
  cases s with
  | eq u => exact id
  | ints l => exact fun k => k.below h
  | tab l => exact fun ⟨A, c, e, k⟩ => ⟨A, c, e, kept_tab.below k h⟩
  | pres g l => exact fun ⟨A, c, e, k⟩ => ⟨A, c, e, kept_tab.below k h⟩
  | any => exact id
section
variable {o : Oper} {a : Act} {w w' : World} {n : Nat} {v : Value}
end
end Go.Proofs
namespace Go.Proofs
open Go.RowKit Go.Shelf Go.Proofs.Ct Go.Maps
/-- long's answer: where it says no, the words are short -/
def LongSaid (l : List (List Int)) (e : Ending) : Prop := ∃ b, e = .returned (.bool b) ∧ (b = false → l.length ≤ 110 ∧ ∀ j, (l.getD j []).length ≤ 60)
end Go.Proofs
namespace Go.Proofs
open Go.RowKit Go.Shelf Go.Proofs.Ct Go.Maps
theorem cells49 {w : World} {b : Nat} {x y z : Value} (h : w.heap[b]? = some (.cells #[x, y, z] 49 (0, 0))) : w.cell? ⟨b, 0, none⟩ = some x ∧ w.cell? ⟨b, 1, none⟩ = some y ∧ w.cell? ⟨b, 2, none⟩ = some z := by
  refine ⟨?_, ?_, ?_⟩ <;> (rw [cell_of_row _ _ _ _ _ _ h]; rfl)
end Go.Proofs
namespace Go.Proofs.Ct
/-- a word leads from x to y -/
def Way (t : Tb) : Nat → W → Nat → Prop
  | x, [], y => x = y
  | x, l :: w, y => ∃ z, Edge t x (col l) z ∧ Way t z w y
section
variable {t : Tb} {g : Nat} {s s0 s1 : St}
theorem way_app {u v : W} : ∀ {x y : Nat}, Way t x (u ++ v) y ↔ ∃ z, Way t x u z ∧ Way t z v y := by
  induction u with
  | nil => intro x y; exact ⟨fun h => ⟨x, rfl, h⟩, fun ⟨z, h1, h2⟩ => by have e : x = z := h1; subst e; exact h2⟩
  | cons l u ih =>
    intro x y
    constructor
    · rintro ⟨z, h1, h2⟩
      obtain ⟨z', h3, h4⟩ := ih.1 h2
      exact ⟨z', ⟨z, h1, h3⟩, h4⟩
    · rintro ⟨z', ⟨z, h1, h3⟩, h4⟩
      exact ⟨z, h1, ih.2 ⟨z', h3, h4⟩⟩
theorem way_one {x y : Nat} {l : Int} : Way t x [l] y ↔ Edge t x (col l) y := ⟨fun ⟨z, h1, h2⟩ => by have e : z = y := h2; subst e; exact h1, fun h => ⟨y, h, rfl⟩⟩
theorem take_snocW {w : W} {k : Nat} (h : k < w.length) : w.take (k + 1) = w.take k ++ [w.getD k 0] := by
  rw [List.take_add_one, List.getD_eq_getElem?_getD, List.getElem?_eq_getElem h]; rfl
theorem way_of_lead {r : Nat} {w : W} : ∀ (k : Nat), k ≤ w.length → 0 ≤ leadTo t r w k → Way t r (w.take k) (leadTo t r w k).toNat
  | 0, _, _ => by
    rw [List.take_zero]
    show r = ((r : Int)).toNat
    omega
  | k + 1, hk, h => by
    rw [leadTo_succ] at h ⊢
    by_cases h1 : leadTo t r w k < 0
    · rw [if_pos h1] at h; omega
    · rw [if_neg h1] at h ⊢
      have ih := way_of_lead (r := r) (w := w) k (by omega) (by omega)
      rw [take_snocW (by omega)]
      refine way_app.2 ⟨_, ih, way_one.2 ?_⟩
      unfold Edge
      omega
theorem lead_of_way {r : Nat} {w : W} : ∀ (k : Nat), k ≤ w.length → ∀ {y : Nat}, Way t r (w.take k) y → leadTo t r w k = (y : Int)
  | 0, _, y, h => by
    rw [List.take_zero] at h
    have e : r = y := h
    subst e; rfl
  | k + 1, hk, y, h => by
    rw [take_snocW (by omega)] at h
    obtain ⟨z, h1, h2⟩ := way_app.1 h
    have ih := lead_of_way k (by omega) h1
    rw [leadTo_succ, ih, if_neg (by omega), Int.toNat_natCast]
    exact way_one.1 h2
theorem leads_iff {r y : Nat} {w : W} : leads t r w = (y : Int) ↔ Way t r w y := by
  constructor
  · intro h
    have := way_of_lead (t := t) (r := r) w.length (Nat.le_refl _) (by show 0 ≤ leads t r w; omega)
    rw [List.take_length] at this
    have e : (leadTo t r w w.length).toNat = y := by show (leads t r w).toNat = y; omega
    rwa [e] at this
  · intro h
    exact lead_of_way w.length (Nat.le_refl _) (by rw [List.take_length]; exact h)
theorem LOk.cons {l : Int} {w : W} (h : LOk g (l :: w)) : (-(g : Int) ≤ l ∧ l ≤ g ∧ l ≠ 0) ∧ LOk g w := ⟨h l (List.mem_cons_self ..), fun x hx => h x (List.mem_cons_of_mem _ hx)⟩
theorem col_ltL {l : Int} (h : -(g : Int) ≤ l ∧ l ≤ g ∧ l ≠ 0) : col l < 2 * g := by unfold col; split <;> omega
theorem inv_cons (l : Int) (w : W) : inv (l :: w) = inv w ++ [-l] := by simp [inv]
theorem inv_inv (w : W) : inv (inv w) = w := by simp [inv, Function.comp_def]
theorem inv_app (u v : W) : inv (u ++ v) = inv v ++ inv u := by simp [inv]
theorem way_inv (h : Inv g s) : ∀ {w : W} {x y : Nat}, LOk g w → x < s.t.length → Way s.t x w y → Way s.t y (inv w) x := by
  intro w
  induction w with
  | nil => intro x y _ _ h; exact Eq.symm h
  | cons l w ih =>
    rintro x y hw hx ⟨z, h1, h2⟩
    rw [inv_cons]
    refine way_app.2 ⟨z, ih hw.cons.2 (h1.lt h hx (col_ltL hw.cons.1)) h2, way_one.2 ?_⟩
    rw [col_inv hw.cons.1.2.2]
    exact h1.back h hx (col_ltL hw.cons.1)
theorem way_ext (h0 : Inv g s0) (h : Ext g s0 s1) : ∀ {w : W} {x y : Nat}, LOk g w → x < s0.t.length → Way s0.t x w y → Way s1.t (s1.rp x) w (s1.rp y) := by
  intro w
  induction w with
  | nil => intro x y _ _ h; have e : x = y := h; subst e; exact rfl
  | cons l w ih =>
    rintro x y hw hx ⟨z, h1, h2⟩
    have hz := h1.lt h0 hx (col_ltL hw.cons.1)
    exact ⟨_, h.edge _ _ _ hx (col_ltL hw.cons.1) h1, ih hw.cons.2 hz h2⟩
/-- a word is closed at a coset -/
def Clo (s : St) (r : Nat) (w : W) : Prop := Way s.t (s.rp r) w (s.rp r)
theorem Clo.ext (h0 : Rest g s0) (h : Ext g s0 s1) {r : Nat} (hr : r < s0.t.length) {w : W} (hw : LOk g w) (hc : Clo s0 r w) : Clo s1 r w := by
  have := way_ext h0.inv h hw (h0.inv.rlt hr) hc
  rwa [h.coarse r hr] at this
theorem drop_inv {w : W} {k : Nat} (hk : k ≤ w.length) : inv ((inv w).take k) = w.drop (w.length - k) := by
  have h1 : inv w = inv (w.drop (w.length - k)) ++ inv (w.take (w.length - k)) := by rw [← inv_app, List.take_append_drop]
  have h2 : (inv (w.drop (w.length - k))).length = k := by rw [length_inv, List.length_drop]; omega
  rw [h1, List.take_append_of_le_length (by omega), List.take_of_length_le (by omega), inv_inv]
end
end Go.Proofs.Ct
namespace Go.Proofs.Ct
section
variable {g lim : Nat} {s s0 s1 : St} {rels sub : List W}
/-- the relators are closed at the cosets below k -/
def RC (rels : List W) (s : St) (k : Nat) : Prop := ∀ x, x < k → x < s.t.length → ∀ i, i < rels.length → Clo s x (rels.getD i [])
theorem RC.ext (h0 : Rest g s0) (h : Ext g s0 s1) (hr : ∀ j, j < rels.length → LOk g (rels.getD j [])) {k : Nat} (hk : k ≤ s0.t.length) (hc : RC rels s0 k) : RC rels s1 k := fun x hx _ i hi =>
  (hc x hx (by omega) i hi).ext h0 h (by omega) (hr i hi)
/-- an edge of the table of the living -/
theorem tab_edge (h : Rest g s) {x y c : Nat} (hx : x < s.t.length) (hc : c < 2 * g) (he : Edge s.t x c y) : num s x < (tabS s).length ∧ Edge (tabS s) (num s x) c (num s y) := by
  obtain ⟨h1, h2, h3⟩ := h.live hx hc he
  obtain ⟨k1, k2⟩ := num_lt (n := s.t.length) hx h1
  refine ⟨by rw [length_tab]; exact k1, ?_⟩
  unfold Edge
  have h4 : (liv s).getD (num s x) 0 = x := k2
  rw [at_tab k1 (by rw [h4, h.inv.len x hx]; exact hc), h4, show s.t.at x c = (y : Int) from he, Int.toNat_natCast]
theorem tab_way (h : Rest g s) : ∀ {w : W} {x y : Nat}, LOk g w → x < s.t.length → Way s.t x w y → Way (tabS s) (num s x) w (num s y) := by
  intro w
  induction w with
  | nil => intro x y _ _ e; have e : x = y := e; rw [e]; exact rfl
  | cons l w ih =>
    rintro x y hw hx ⟨z, h1, h2⟩
    have hz := h1.lt h.inv hx (col_ltL hw.cons.1)
    exact ⟨_, (tab_edge h hx (col_ltL hw.cons.1) h1).2, ih hw.cons.2 hz h2⟩
/-- the words that are closed, in the table of the living -/
theorem tab_closed (h : Rest g s) (hr : ∀ j, j < rels.length → LOk g (rels.getD j [])) (hC : RC rels s s.t.length) : ∀ i, i < (tabS s).length → ∀ j, j < rels.length → Way (tabS s) i (rels.getD j []) i := fun i hi j hj => by
  rw [length_tab] at hi
  obtain ⟨h1, h2, h3⟩ := livTo_at (s := s) s.t.length i hi
  have := hC _ h1 h1 j hj
  unfold Clo at this
  rw [h2] at this
  have h4 := tab_way h (hr j hj) h1 this
  rwa [h3] at h4
theorem tab_closed0 (h : Rest g s) (hn : 1 ≤ s.t.length) {w : W} (hw : LOk g w) (hC : Clo s 0 w) : Way (tabS s) 0 w 0 := by
  unfold Clo at hC
  rw [rp_zero h hn] at hC
  exact tab_way h hw hn hC
end
end Go.Proofs.Ct
