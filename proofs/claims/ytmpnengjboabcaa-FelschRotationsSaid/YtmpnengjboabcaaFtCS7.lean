/- The reference's Begin and Given; coset.Enumerate; The reference's Enumerate; The walk of RewriteKnown; Ways of words; what was scanned is closed; What an enumeration ends with, plainly: relators are closed everywhere, the subgroup's words at 0; the table of the living; Tables that are full, maps between them, and the standard table as a table with other numbers; Universality, plainly: an enumeration's state maps onto whatever satisfies its relators; Coset tables, plainly: what an enumeration's table is; maps between tables; how many cosets lie over one; How many cosets live at most, plainly. -/
import Derived.Test.YtmpnengjboabcaaFtCS6
import Derived.Test.YtmpnengjboabcaaFtCS2
namespace Go.Proofs
open Go.RowKit Go.Shelf Go.Proofs.Ct Go.Maps
def made124 (w : World) (lim : Nat) : World := w.alloc (.cells #[.slice none 0 0, .slice none 0 0, .slice none 0 0, .int .i64 (lim : Int), .int .i64 0, .int .i64 0, .bool false] 131)
theorem inv_nil (g : Nat) : Inv g nilS := by
  refine ⟨?_, ?_, rfl, ?_, ?_, ?_⟩ <;> intro x hx <;> exact absurd hx (Nat.not_lt_zero _)
def givenE (g : Int) (rels sub : List W) (limit : Int) : Int := if presE g rels ≠ 0 then presE g rels else if badArgs g.toNat sub limit = true then 2 else 0
theorem sumTo_le' {sub : List W} (h : ∀ j, (sub.getD j []).length ≤ 100000) : ∀ k, sumTo sub k ≤ k * 100000
  | 0 => Nat.zero_le _
  | k + 1 => by
    have := sumTo_le' h k
    have := h k
    show sumTo sub k + (sub.getD k []).length ≤ (k + 1) * 100000
    omega
end Go.Proofs
namespace Go.Proofs
open Go.RowKit Go.Shelf Go.Proofs.Ct Go.Maps
theorem resC_made (w : World) (x : Array Value) : ResC (w.heap.size + 1) ((((w.alloc (.cells x 40)).alloc (.cells #[.slice none 0 0] 23)).alloc (.cells #[.int .i64 0, .int .i64 0, .int .i64 0] 49)).alloc (.cells #[.int .i64 0] 28)) (.slice none 0 0) 0 0 0 0 := by
  constructor <;> simp [go_sem]
def made116 (w : World) (g lim : Nat) : World := w.alloc (.cells #[.int .i64 (2 * (g : Int)), .int .i64 (lim : Int), .slice none 0 0, .slice none 0 0, .slice none 0 0, .int .i64 0, .int .i64 0] 123)
theorem addr_ne {a b : Addr} (h : a.block ≠ b.block ∨ a.off ≠ b.off) : a ≠ b := fun e => by
  subst e
  rcases h with h | h <;> exact h rfl
theorem ResC.set2 {q : Nat} {w : World} {v : Value} {a b c e : Int} (h : ResC q w v a b c e) (v' : Value) (e' : Int) : ResC q ((w.setCell ⟨q, 0, none⟩ v').setCell ⟨q + 1 + 1, 0, none⟩ (.int .i64 e')) v' a b c e' := by
  obtain ⟨c0, c1, c2, c3, c4, f0, f1, f2, f3, f4⟩ := h
  refine ⟨(cell_set (cell_set c0 _) _).trans ?_, (cell_set (cell_set c1 _) _).trans ?_, (cell_set (cell_set c2 _) _).trans ?_, (cell_set (cell_set c3 _) _).trans ?_, (cell_set (cell_set c4 _) _).trans ?_, ?_, ?_, ?_, ?_, ?_⟩ <;> simp [f0, f1, f2, f3, f4]
theorem TabB.setCell {B : Nat} {w : World} {u : Value} {l : List (List Int)} (h : TabB B w u l) {p : Addr} (hp : p.block < B) (v : Value) : TabB B (w.setCell p v) u l :=
  h.keep (by simp [World.setCell]) fun k h1 _ => Below.heap_setCell w p v k (by omega)
theorem setR_tabB {B q : Nat} {w : World} {u : Value} {l : List (List Int)} (h : TabB B w u l) (h1 : q + 1 < B) (h2 : q + 1 + 1 < B) (v : Value) (a b c e : Int) : TabB B (setR q w v a b c e) u l :=
  ((((h.setCell (p := ⟨q, 0, none⟩) (by show q < B; omega) v).setCell (p := ⟨q + 1, 0, none⟩) h1 _).setCell (p := ⟨q + 1, 1, none⟩) h1 _).setCell (p := ⟨q + 1, 2, none⟩) h1 _).setCell (p := ⟨q + 1 + 1, 0, none⟩) h2 _
abbrev S16 (q p : Nat) (u r m : Value) (W : World) : Prop := W.cell? ⟨q, 0, none⟩ = some u ∧ W.cell? ⟨p, 2, none⟩ = some r ∧ W.cell? ⟨p, 6, none⟩ = some m ∧ W.cell? ⟨q + 1 + 1, 0, none⟩ = some (.int .i64 0)
def EnumPostB (g : Int) (rels sub : List W) (limit : Int) (w : World) (e : Ending) (w' : World) : Prop :=
  (∃ u, e = .returned (.tuple #[u, .agg #[.int .i64 (enumE g rels sub limit).2.1.1, .int .i64 (enumE g rels sub limit).2.1.2, .int .i64 0], .int .i64 (enumE g rels sub limit).2.2]) ∧ TabB w.heap.size w' u (enumE g rels sub limit).1) ∧ Below w.heap.size w w'
theorem TabB.low {B B' : Nat} {w : World} {u : Value} {l : List (List Int)} (h : TabB B w u l) (hb : B' ≤ B) : TabB B' w u l := fun w' hk => h w' fun k h1 h2 => hk k (Nat.le_trans hb h1) h2
theorem TabB.belowB {B : Nat} {w w' : World} {u : Value} {l : List (List Int)} (h : TabB B w u l) (hb : Below w.heap.size w w') : TabB B w' u l := h.keep hb.size fun k _ h2 => hb.block k h2
end Go.Proofs
namespace Go.Proofs
open Go.RowKit Go.Shelf Go.Proofs.Ct Go.Maps
structure NumC (q : Nat) (w : World) (a b c : Int) : Prop where
  c1 : w.cell? ⟨q, 0, none⟩ = some (.int .i64 a)
  c2 : w.cell? ⟨q, 1, none⟩ = some (.int .i64 b)
  c3 : w.cell? ⟨q, 2, none⟩ = some (.int .i64 c)
  f1 : w.frozen? ⟨q, 0, none⟩ = false
  f2 : w.frozen? ⟨q, 1, none⟩ = false
  f3 : w.frozen? ⟨q, 2, none⟩ = false
def setN (q : Nat) (w : World) (a b c : Int) : World := ((w.setCell ⟨q, 0, none⟩ (.int .i64 a)).setCell ⟨q, 1, none⟩ (.int .i64 b)).setCell ⟨q, 2, none⟩ (.int .i64 c)
end Go.Proofs
namespace Go.Proofs
open Go.RowKit Go.Shelf Go.Proofs.Ct Go.Maps
def smallT : List (List Int) := [[1, 1], [2, 2, 2], [1, 2, 1, 2]]
theorem ints_blk {w : World} {b : Nat} {xs : List Int} (h : w.heap[b]? = some (.cells (ints xs).toArray 3 (0, 0))) (hf : Fits xs) {n : Nat} (hn : xs.length = n) (hm : n ≤ 1000) : IntsAt w (.slice (some ⟨b, 0, none⟩) n n) xs := by
  subst hn
  have hl : xs.length ≤ 9223372036854775807 := by omega
  refine ⟨⟨_, xs.length, xs.length, rfl, by simp [ints], Nat.le_refl _, by simpa [maxLen] using hl, fun _ => ⟨b, 0, rfl, fun j u hu => ?_⟩⟩, hf⟩
  rw [cell_of_row _ _ _ _ _ _ h, Nat.zero_add]
  simpa using hu
theorem tab_blk {w : World} {b : Nat} {us : List Value} {xs : List (List Int)} {e : TypeId} (hb : w.heap[b]? = some (.cells us.toArray e (0, 0))) {n : Nat} (hn : us.length = n) (hl : us.length = xs.length) (hm : us.length ≤ 1000) (h : ∀ i, i < xs.length → IntsAt w (us.getD i undef) (xs.getD i [])) :
    Tab w (.slice (some ⟨b, 0, none⟩) n n) xs := by
  subst hn
  have hl9 : us.length ≤ 9223372036854775807 := by omega
  refine ⟨us, ⟨_, us.length, us.length, rfl, rfl, Nat.le_refl _, by simpa [maxLen] using hl9, fun _ => ⟨b, 0, rfl, fun j u hu => ?_⟩⟩, hl, fun i hi => ?_⟩
  · rw [cell_of_row _ _ _ _ _ _ hb, Nat.zero_add]
    simpa using hu
  · have hi' : i < us.length := by omega
    refine ⟨us.getD i undef, ?_, h i hi⟩
    simp [List.getD_eq_getElem?_getD, hi']
theorem fits_lit {xs : List Int} (h : (xs.all fun x => decide (-1000 ≤ x) && decide (x ≤ 1000)) = true) : Fits xs := fun x hx => by
  have := List.all_eq_true.1 h x hx
  simp at this
  omega
theorem build40s (g : Int) (A : Option Addr) (n c : Nat) (w : World) : (Instr.build 40 #[(0, .int .i64 g), (1, .slice A n c)]).run Try.prog w = .ok (.agg #[.int .i64 g, .slice A n c]) w := by kernel_rfl
section
variable {o : Oper} {a : Act} {w w' : World} {n : Nat} {v : Value}
theorem r_build40s (x y : Operand) (g : Int) (A : Option Addr) (m c : Nat) (ho : o.op = .build 40 #[(0, x), (1, y)]) (hx : a.eval x = .int .i64 g) (hy : a.eval y = .slice A m c) : (execOp a.eval o).run Try.prog w = .ok (.value (.agg #[.int .i64 g, .slice A m c])) w := by
  have hb := build40s g A m c w
  unfold execOp
  simp only [ho, List.map_toArray, List.map_cons, List.map_nil, hx, hy, Sem.run_bind, hb, Result.andThen_ok]
  rfl
end
theorem results_40 {fn : Func} {p : Tmp} (h : fn.results = #[.cell p 40]) (tmps : Array Value) (w : World) (g : Nat) (cs : Array Value)
    (hp : tmps.getD p undef = .pointer (some ⟨g, 0, none⟩)) (hg : w.heap[g]? = some (.cells cs 40 (0, 0))) (hs : cs.size = 2) :
    (results fn tmps).run Try.prog w = .ok (.agg cs) w := by
  have hp' : tmps[p]?.getD undef = .pointer (some ⟨g, 0, none⟩) := by simpa using hp
  simp [results, h, hp', asAddr, run_loadVar_row w g 40 40 cs (0, 0) _ hg Try.underlying40 rfl (by rw [hs]; exact info40s)]
def PresAt (g : Int) (l : List (List Int)) (w : World) (e : Ending) (w' : World) : Prop := (∃ A c, e = .returned (.agg #[.int .i64 g, .slice A l.length c]) ∧ Tab w' (.slice A l.length c) l) ∧ Below w.heap.size w w'
inductive SP where
  | eq (v : Value) | ints (l : List Int) | tab (l : List (List Int)) | pres (g : Int) (l : List (List Int)) | any
def SP.holds : SP → Value → World → Prop
  | .eq u, v, _ => v = u
  | .ints l, v, w => IntsAt w v l
  | .tab l, v, w => ∃ A c, v = .slice A l.length c ∧ Tab w v l
  | .pres g l, v, w => ∃ A c, v = .agg #[.int .i64 g, .slice A l.length c] ∧ Tab w (.slice A l.length c) l
  | .any, _, _ => True
section
variable {o : Oper} {a : Act} {w w' : World} {n : Nat} {v : Value}
end
end Go.Proofs
namespace Go.Proofs.Ct
def Way (t : Tb) : Nat → W → Nat → Prop
  | x, [], y => x = y
  | x, l :: w, y => ∃ z, Edge t x (col l) z ∧ Way t z w y
section
variable {t : Tb} {g : Nat} {s s0 s1 : St}
theorem way_app {u v : W} : ∀ {x y : Nat}, Way t x (u ++ v) y ↔ ∃ z, Way t x u z ∧ Way t z v y := by
  induction u with
  | nil => intro x y; exact ⟨fun h => ⟨x, rfl, h⟩, fun ⟨z, h1, h2⟩ => by have e : x = z := h1; subst e; exact h2⟩
  | cons l u ih =>
    intro x y
    constructor
    · rintro ⟨z, h1, h2⟩
      obtain ⟨z', h3, h4⟩ := ih.1 h2
      exact ⟨z', ⟨z, h1, h3⟩, h4⟩
    · rintro ⟨z', ⟨z, h1, h3⟩, h4⟩
      exact ⟨z, h1, ih.2 ⟨z', h3, h4⟩⟩
theorem way_one {x y : Nat} {l : Int} : Way t x [l] y ↔ Edge t x (col l) y := ⟨fun ⟨z, h1, h2⟩ => by have e : z = y := h2; subst e; exact h1, fun h => ⟨y, h, rfl⟩⟩
theorem take_snocW {w : W} {k : Nat} (h : k < w.length) : w.take (k + 1) = w.take k ++ [w.getD k 0] := by
  rw [List.take_add_one, List.getD_eq_getElem?_getD, List.getElem?_eq_getElem h]; rfl
theorem way_of_lead {r : Nat} {w : W} : ∀ (k : Nat), k ≤ w.length → 0 ≤ leadTo t r w k → Way t r (w.take k) (leadTo t r w k).toNat
  | 0, _, _ => by
    rw [List.take_zero]
    show r = ((r : Int)).toNat
    omega
  | k + 1, hk, h => by
    rw [leadTo_succ] at h ⊢
    by_cases h1 : leadTo t r w k < 0
    · rw [if_pos h1] at h; omega
    · rw [if_neg h1] at h ⊢
      have ih := way_of_lead (r := r) (w := w) k (by omega) (by omega)
      rw [take_snocW (by omega)]
      refine way_app.2 ⟨_, ih, way_one.2 ?_⟩
      unfold Edge
      omega
theorem lead_of_way {r : Nat} {w : W} : ∀ (k : Nat), k ≤ w.length → ∀ {y : Nat}, Way t r (w.take k) y → leadTo t r w k = (y : Int)
  | 0, _, y, h => by
    rw [List.take_zero] at h
    have e : r = y := h
    subst e; rfl
  | k + 1, hk, y, h => by
    rw [take_snocW (by omega)] at h
    obtain ⟨z, h1, h2⟩ := way_app.1 h
    have ih := lead_of_way k (by omega) h1
    rw [leadTo_succ, ih, if_neg (by omega), Int.toNat_natCast]
    exact way_one.1 h2
theorem leads_iff {r y : Nat} {w : W} : leads t r w = (y : Int) ↔ Way t r w y := by
  constructor
  · intro h
    have := way_of_lead (t := t) (r := r) w.length (Nat.le_refl _) (by show 0 ≤ leads t r w; omega)
    rw [List.take_length] at this
    have e : (leadTo t r w w.length).toNat = y := by show (leads t r w).toNat = y; omega
    rwa [e] at this
  · intro h
    exact lead_of_way w.length (Nat.le_refl _) (by rw [List.take_length]; exact h)
theorem LOk.cons {l : Int} {w : W} (h : LOk g (l :: w)) : (-(g : Int) ≤ l ∧ l ≤ g ∧ l ≠ 0) ∧ LOk g w := ⟨h l (List.mem_cons_self ..), fun x hx => h x (List.mem_cons_of_mem _ hx)⟩
theorem col_ltL {l : Int} (h : -(g : Int) ≤ l ∧ l ≤ g ∧ l ≠ 0) : col l < 2 * g := by unfold col; split <;> omega
theorem inv_cons (l : Int) (w : W) : inv (l :: w) = inv w ++ [-l] := by simp [inv]
theorem inv_inv (w : W) : inv (inv w) = w := by simp [inv, Function.comp_def]
theorem inv_app (u v : W) : inv (u ++ v) = inv v ++ inv u := by simp [inv]
theorem way_inv (h : Inv g s) : ∀ {w : W} {x y : Nat}, LOk g w → x < s.t.length → Way s.t x w y → Way s.t y (inv w) x := by
  intro w
  induction w with
  | nil => intro x y _ _ h; exact Eq.symm h
  | cons l w ih =>
    rintro x y hw hx ⟨z, h1, h2⟩
    rw [inv_cons]
    refine way_app.2 ⟨z, ih hw.cons.2 (h1.lt h hx (col_ltL hw.cons.1)) h2, way_one.2 ?_⟩
    rw [col_inv hw.cons.1.2.2]
    exact h1.back h hx (col_ltL hw.cons.1)
theorem way_ext (h0 : Inv g s0) (h : Ext g s0 s1) : ∀ {w : W} {x y : Nat}, LOk g w → x < s0.t.length → Way s0.t x w y → Way s1.t (s1.rp x) w (s1.rp y) := by
  intro w
  induction w with
  | nil => intro x y _ _ h; have e : x = y := h; subst e; exact rfl
  | cons l w ih =>
    rintro x y hw hx ⟨z, h1, h2⟩
    have hz := h1.lt h0 hx (col_ltL hw.cons.1)
    exact ⟨_, h.edge _ _ _ hx (col_ltL hw.cons.1) h1, ih hw.cons.2 hz h2⟩
def Clo (s : St) (r : Nat) (w : W) : Prop := Way s.t (s.rp r) w (s.rp r)
theorem Clo.ext (h0 : Rest g s0) (h : Ext g s0 s1) {r : Nat} (hr : r < s0.t.length) {w : W} (hw : LOk g w) (hc : Clo s0 r w) : Clo s1 r w := by
  have := way_ext h0.inv h hw (h0.inv.rlt hr) hc
  rwa [h.coarse r hr] at this
theorem drop_inv {w : W} {k : Nat} (hk : k ≤ w.length) : inv ((inv w).take k) = w.drop (w.length - k) := by
  have h1 : inv w = inv (w.drop (w.length - k)) ++ inv (w.take (w.length - k)) := by rw [← inv_app, List.take_append_drop]
  have h2 : (inv (w.drop (w.length - k))).length = k := by rw [length_inv, List.length_drop]; omega
  rw [h1, List.take_append_of_le_length (by omega), List.take_of_length_le (by omega), inv_inv]
theorem scan_closed (h : Rest g s) {r : Nat} (hr : r < s.t.length) (hlr : s.rp r = r) {w : W} (hw : LOk g w) {s' : St} (e : scanS (2 * g) s r w = (s', none)) : Clo s' r w := by
  obtain ⟨f1, f2, f3⟩ := fwd_spec s.t r w
  have fp := fwd_pos s.t r w
  obtain ⟨b1, b2, b3⟩ := bwd_spec s.t r w (fwd s.t r w)
  have bp := bwd_pos s.t r w (fwd s.t r w)
  obtain ⟨fl, flv⟩ := lead_live h hw hr hlr _ f1 fp
  obtain ⟨bl, blv⟩ := lead_live h hw.inv hr hlr _ (by rw [length_inv]; exact b1) bp
  have hF := way_of_lead _ f1 fp
  have hB := way_inv h.inv (fun x hx => hw.inv x (List.mem_of_mem_take hx)) hr (way_of_lead _ (by rw [length_inv]; exact b1) bp)
  rw [drop_inv b1] at hB
  have hnext : fwd s.t r w < w.length → s.t.at (leadTo s.t r w (fwd s.t r w)).toNat (col (w.getD (fwd s.t r w) 0)) < 0 := fun hlt => by
    rcases f2 with f2 | f2
    · omega
    · rw [leadTo_succ, if_neg (by omega)] at f2
      exact f2
  have hback : ¬ w.length ≤ fwd s.t r w + bwd s.t r w (fwd s.t r w) → s.t.at (leadTo s.t r (Ct.inv w) (bwd s.t r w (fwd s.t r w))).toNat (col ((Ct.inv w).getD (bwd s.t r w (fwd s.t r w)) 0)) < 0 := fun hlt => by
    rcases b2 with b2 | b2
    · omega
    · rw [leadTo_succ, if_neg (by omega)] at b2
      exact b2
  have hik : fwd s.t r w + bwd s.t r w (fwd s.t r w) ≤ w.length := by
    rcases Nat.eq_zero_or_pos (bwd s.t r w (fwd s.t r w)) with h0 | h0
    · omega
    · have := (b3 (bwd s.t r w (fwd s.t r w) - 1) (by omega)).1
      omega
  have hwt : ∀ k, LOk g (w.take k) := fun k x hx => hw x (List.mem_of_mem_take hx)
  have hwd : ∀ k, LOk g (w.drop k) := fun k x hx => hw x (List.mem_of_mem_drop hx)
  unfold scanS at e
  generalize hi : fwd s.t r w = i at *
  generalize hk : bwd s.t r w i = k at *
  generalize leadTo s.t r w i = f at *
  generalize leadTo s.t r (Ct.inv w) k = b at *
  unfold Clo
  by_cases h1 : i = w.length
  · rw [if_pos h1] at e
    rw [h1, List.take_length] at hF
    by_cases h2 : f = (r : Int)
    · rw [if_pos h2] at e
      cases e
      rw [hlr]
      rw [h2, Int.toNat_natCast] at hF
      exact hF
    · rw [if_neg h2] at e
      cases e
      obtain ⟨c1, c2, c3, c4⟩ := coin_rest h fl hr
      have := way_ext h.inv (Ext.of_cov c1 c2) hw hr hF
      rwa [c3] at this
  · rw [if_neg h1] at e
    by_cases h2 : w.length ≤ i + k
    · rw [if_pos h2] at e
      cases e
      obtain ⟨c1, c2, c3, c4⟩ := coin_rest h fl bl
      have hE := Ext.of_cov c1 c2
      rw [show w.length - k = i by omega] at hB
      have w1 := way_ext h.inv hE (hwt i) hr hF
      have w2 := way_ext h.inv hE (hwd i) bl hB
      rw [c3] at w1
      have := way_app.2 ⟨_, w1, w2⟩
      rwa [List.take_append_drop] at this
    · rw [if_neg h2] at e
      have hil : i < w.length := by omega
      by_cases h3 : w.length = i + k + 1
      · rw [if_pos h3] at e
        cases e
        have hb := hback h2
        rw [inv_getD (by omega), show w.length - 1 - k = i by omega, col_inv (hw.getD hil).2.2] at hb
        obtain ⟨c1, c2, c3⟩ := h.join fl bl (hw.col hil) flv blv (hnext hil) hb
        rw [show w.length - k = i + 1 by omega] at hB
        have w1 := way_ext h.inv c2 (hwt i) hr hF
        have w2 := way_ext h.inv c2 (hwd (i + 1)) bl hB
        rw [rp_joinS, rp_joinS, hlr, flv] at w1
        rw [rp_joinS, rp_joinS, hlr, blv] at w2
        rw [rp_joinS, hlr]
        have := way_app.2 ⟨_, way_app.2 ⟨_, w1, way_one.2 c3⟩, w2⟩
        rwa [← take_snocW hil, List.take_append_drop] at this
      · rw [if_neg h3] at e
        cases e
end
end Go.Proofs.Ct
namespace Go.Proofs.Ct
section
variable {g lim : Nat} {s s0 s1 : St} {rels sub : List W}
def RC (rels : List W) (s : St) (k : Nat) : Prop := ∀ x, x < k → x < s.t.length → ∀ i, i < rels.length → Clo s x (rels.getD i [])
theorem RC.ext (h0 : Rest g s0) (h : Ext g s0 s1) (hr : ∀ j, j < rels.length → LOk g (rels.getD j [])) {k : Nat} (hk : k ≤ s0.t.length) (hc : RC rels s0 k) : RC rels s1 k := fun x hx _ i hi =>
  (hc x hx (by omega) i hi).ext h0 h (by omega) (hr i hi)
theorem clo_rp (h : Inv g s) {r : Nat} (hr : r < s.t.length) {w : W} (hc : Clo s (s.rp r) w) : Clo s r w := by
  unfold Clo at hc ⊢
  rwa [h.rid r hr] at hc
theorem tab_edge (h : Rest g s) {x y c : Nat} (hx : x < s.t.length) (hc : c < 2 * g) (he : Edge s.t x c y) : num s x < (tabS s).length ∧ Edge (tabS s) (num s x) c (num s y) := by
  obtain ⟨h1, h2, h3⟩ := h.live hx hc he
  obtain ⟨k1, k2⟩ := num_lt (n := s.t.length) hx h1
  refine ⟨by rw [length_tab]; exact k1, ?_⟩
  unfold Edge
  have h4 : (liv s).getD (num s x) 0 = x := k2
  rw [at_tab k1 (by rw [h4, h.inv.len x hx]; exact hc), h4, show s.t.at x c = (y : Int) from he, Int.toNat_natCast]
theorem tab_way (h : Rest g s) : ∀ {w : W} {x y : Nat}, LOk g w → x < s.t.length → Way s.t x w y → Way (tabS s) (num s x) w (num s y) := by
  intro w
  induction w with
  | nil => intro x y _ _ e; have e : x = y := e; rw [e]; exact rfl
  | cons l w ih =>
    rintro x y hw hx ⟨z, h1, h2⟩
    have hz := h1.lt h.inv hx (col_ltL hw.cons.1)
    exact ⟨_, (tab_edge h hx (col_ltL hw.cons.1) h1).2, ih hw.cons.2 hz h2⟩
theorem tab_closed (h : Rest g s) (hr : ∀ j, j < rels.length → LOk g (rels.getD j [])) (hC : RC rels s s.t.length) : ∀ i, i < (tabS s).length → ∀ j, j < rels.length → Way (tabS s) i (rels.getD j []) i := fun i hi j hj => by
  rw [length_tab] at hi
  obtain ⟨h1, h2, h3⟩ := livTo_at (s := s) s.t.length i hi
  have := hC _ h1 h1 j hj
  unfold Clo at this
  rw [h2] at this
  have h4 := tab_way h (hr j hj) h1 this
  rwa [h3] at h4
theorem tab_closed0 (h : Rest g s) (hn : 1 ≤ s.t.length) {w : W} (hw : LOk g w) (hC : Clo s 0 w) : Way (tabS s) 0 w 0 := by
  unfold Clo at hC
  rw [rp_zero h hn] at hC
  exact tab_way h hw hn hC
end
end Go.Proofs.Ct
namespace Go.Proofs.Ct
structure Full (g : Nat) (t : Tb) : Prop where
  good : TGood g t
  pos : ∀ r, r < t.length → ∀ c, c < 2 * g → 0 ≤ t.at r c
  conn : ∀ x, x < t.length → Reach g t 0 x
structure Hm (g : Nat) (t u : Tb) (φ : Nat → Nat) : Prop where
  lt : ∀ x, x < t.length → φ x < u.length
  edge : ∀ x c y, x < t.length → c < 2 * g → Edge t x c y → Edge u (φ x) c (φ y)
section
variable {g : Nat} {t u : Tb} {φ : Nat → Nat}
theorem Full.edge (h : Full g t) {x c : Nat} (hx : x < t.length) (hc : c < 2 * g) : ∃ y, y < t.length ∧ Edge t x c y := by
  have h1 := h.good.bd x hx c hc
  have h2 := h.pos x hx c hc
  exact ⟨(t.at x c).toNat, by omega, by unfold Edge; omega⟩
theorem TGood.elt (h : TGood g t) {x c y : Nat} (hx : x < t.length) (hc : c < 2 * g) (he : Edge t x c y) : y < t.length := by
  have h1 := h.bd x hx c hc
  unfold Edge at he
  omega
theorem TGood.eback (h : TGood g t) {x c y : Nat} (hx : x < t.length) (hc : c < 2 * g) (he : Edge t x c y) : Edge t y (flp c) x := by
  unfold Edge at he ⊢
  have h1 := h.back x hx c hc (by omega)
  rw [he, Int.toNat_natCast] at h1
  exact h1
theorem Hm.way (h : Hm g t u φ) (ht : TGood g t) : ∀ {w : W} {x y : Nat}, LOk g w → x < t.length → Way t x w y → Way u (φ x) w (φ y) := by
  intro w
  induction w with
  | nil => intro x y _ _ e; have e : x = y := e; rw [e]; exact rfl
  | cons l w ih =>
    rintro x y hw hx ⟨z, h1, h2⟩
    exact ⟨_, h.edge _ _ _ hx (col_ltL hw.cons.1) h1, ih hw.cons.2 (ht.elt hx (col_ltL hw.cons.1) h1) h2⟩
theorem row_ext {a b : List Int} {n : Nat} (ha : a.length = n) (hb : b.length = n) (h : ∀ c, c < n → a.getD c 0 = b.getD c 0) : a = b := by
  apply List.ext_getElem
  · omega
  · intro i h1 h2
    have := h i (by omega)
    simpa [List.getD_eq_getElem?_getD, h1, h2] using this
def mp (φ : Nat → Nat) (x : Int) : Int := ((φ x.toNat : Nat) : Int)
theorem Hm.row (h : Hm g t u φ) (ht : TGood g t) (hu : TGood g u) (hp : ∀ r, r < t.length → ∀ c, c < 2 * g → 0 ≤ t.at r c) {r : Nat} (hr : r < t.length) : u.row (φ r) = (t.row r).map (mp φ) := by
  refine row_ext (n := 2 * g) (hu.len _ (h.lt r hr)) (by rw [List.length_map]; exact ht.len r hr) fun c hc => ?_
  have h1 := hp r hr c hc
  have h2 := h.edge r c (t.at r c).toNat hr hc (by unfold Edge; omega)
  have h3 : (u.row (φ r)).getD c 0 = ((φ (t.at r c).toNat : Nat) : Int) := h2
  have h4 : c < (t.row r).length := by rw [ht.len r hr]; exact hc
  have h5 : ∀ (l : List Int) (f : Int → Int), c < l.length → f (l.getD c 0) = (l.map f).getD c 0 := fun l f hl => by
    simp [List.getD_eq_getElem?_getD, hl]
  rw [h3, ← h5 (t.row r) (mp φ) h4]
  rfl
theorem visit_map {n : Nat} (hinj : ∀ x y, x < n → y < n → φ x = φ y → x = y) {l : List Int} (hl : Cos n l) {s : Int} (h0 : 0 ≤ s) (hs : s < n) : visit (l.map (mp φ)) (mp φ s) = (visit l s).map (mp φ) := by
  have hm : mp φ s ∈ l.map (mp φ) ↔ s ∈ l := by
    constructor
    · intro h
      obtain ⟨x, hx, he⟩ := List.mem_map.1 h
      have hb := hl.bd x hx
      unfold mp at he
      have := hinj x.toNat s.toNat (by omega) (by omega) (by omega)
      have e : x = s := by omega
      rwa [e] at hx
    · exact fun h => List.mem_map_of_mem h
  have h1 : (mp φ s < 0) = False := by unfold mp; simp
  unfold visit
  by_cases hc : s ∈ l
  · rw [if_pos (by simp [hm.2 hc]), if_pos (by simp [hc])]
  · rw [if_neg (by simp only [Bool.or_eq_true, decide_eq_true_eq, List.contains_iff_mem, hm, h1]; simp [hc]), if_neg (by simp [hc]; omega)]
    simp
theorem visitTo_map {n : Nat} (hinj : ∀ x y, x < n → y < n → φ x = φ y → x = y) {row row' : List Int} (hr : ∀ c, c < row.length → 0 ≤ row.getD c 0 ∧ row.getD c 0 < n) (he : row' = row.map (mp φ)) {l : List Int} (hl : Cos n l) : ∀ c, c ≤ row.length → visitTo row' c (l.map (mp φ)) = (visitTo row c l).map (mp φ)
  | 0, _ => rfl
  | c + 1, hc => by
    have ih := visitTo_map hinj hr he hl c (by omega)
    have hC : Cos n (visitTo row c l) := hl.visitTo (fun c hc => (hr c hc).2) (by omega)
    show visit (visitTo row' c (l.map (mp φ))) (row'.getD c 0) = (visit (visitTo row c l) (row.getD c 0)).map (mp φ)
    have hx := hr c (by omega)
    have h5 : row'.getD c 0 = mp φ (row.getD c 0) := by
      rw [he]
      simp [List.getD_eq_getElem?_getD, show c < row.length by omega]
    rw [ih, h5]
    exact visit_map hinj hC hx.1 hx.2
theorem ordTo_map (h : Hm g t u φ) (ht : TGood g t) (hu : TGood g u) (hp : ∀ r, r < t.length → ∀ c, c < 2 * g → 0 ≤ t.at r c) (hinj : ∀ x y, x < t.length → y < t.length → φ x = φ y → x = y) {b : Nat} (hb : b < t.length) : ∀ k, ordTo u (φ b : Int) k = (ordTo t (b : Int) k).map (mp φ)
  | 0 => by simp [ordTo, mp]
  | k + 1 => by
    have ih := ordTo_map h ht hu hp hinj hb k
    have hC : Cos t.length (ordTo t (b : Int) k) := Cos.ordTo ht (by omega) (by omega) k
    rw [ordTo, ordTo, ih, List.length_map]
    by_cases hk : k < (ordTo t (b : Int) k).length
    · rw [if_pos hk, if_pos hk]
      have hx := hC.get hk
      have h5 : ((ordTo t (b : Int) k).map (mp φ)).getD k 0 = mp φ ((ordTo t (b : Int) k).getD k 0) := by simp [List.getD_eq_getElem?_getD, hk]
      rw [h5]
      generalize (ordTo t (b : Int) k).getD k 0 = x at *
      have hxn : x.toNat < t.length := by omega
      have hrow := h.row ht hu hp hxn
      have h6 : (mp φ x).toNat = φ x.toNat := by unfold mp; omega
      rw [h6, hrow, List.length_map]
      exact visitTo_map hinj (fun c hc => by rw [ht.len _ hxn] at hc; exact ⟨hp _ hxn c hc, (ht.bd _ hxn c hc).2⟩) rfl hC _ (Nat.le_refl _)
    · rw [if_neg hk, if_neg hk]
theorem idxOf_map_inj {f : Int → Int} {x : Int} : ∀ {o : List Int}, (∀ y ∈ o, f y = f x → y = x) → (o.map f).idxOf (f x) = o.idxOf x
  | [], _ => rfl
  | y :: o, h => by
    rw [List.map_cons, List.idxOf_cons, List.idxOf_cons, idxOf_map_inj fun z hz => h z (List.mem_cons_of_mem _ hz)]
    by_cases e : y = x
    · subst e; simp
    · have : f y ≠ f x := fun h' => e (h y (List.mem_cons_self ..) h')
      rw [show (y == x) = false by simpa using e, show (f y == f x) = false by simpa using this]
theorem neg_of_pos (ht : TGood g t) (hp : ∀ r, r < t.length → ∀ c, c < 2 * g → 0 ≤ t.at r c) : t.any neg = false := neg_false fun r hr c hc => hp r hr c (by rw [ht.len r hr] at hc; exact hc)
theorem std_map (h : Hm g t u φ) (ht : TGood g t) (hu : TGood g u) (hp : ∀ r, r < t.length → ∀ c, c < 2 * g → 0 ≤ t.at r c) (hq : ∀ r, r < u.length → ∀ c, c < 2 * g → 0 ≤ u.at r c) (hinj : ∀ x y, x < t.length → y < t.length → φ x = φ y → x = y) (hl : t.length = u.length) {b : Nat} (hb : b < t.length) : std u (φ b : Int) = std t (b : Int) := by
  have ho : ord u (φ b : Int) = (ord t (b : Int)).map (mp φ) := by
    unfold ord
    rw [← hl]
    exact ordTo_map h ht hu hp hinj hb _
  have hC : Cos t.length (ord t (b : Int)) := Cos.ordTo ht (by omega) (by omega) _
  unfold std
  rw [ho, List.length_map, neg_of_pos ht hp, neg_of_pos hu hq, ← hl]
  by_cases hf : (ord t (b : Int)).length = t.length
  · rw [if_pos ⟨hf, rfl⟩, if_pos ⟨hf, rfl⟩, List.map_map]
    congr 1
    refine List.map_congr_left fun x hx => ?_
    have hbx := hC.bd x hx
    have hxn : x.toNat < t.length := by omega
    show (u.row (mp φ x).toNat).map _ = _
    rw [show (mp φ x).toNat = φ x.toNat by unfold mp; omega, h.row ht hu hp hxn, List.map_map]
    refine List.map_congr_left fun y hy => ?_
    show numOf _ (mp φ y) = numOf _ y
    obtain ⟨c, hc, rfl⟩ := List.mem_iff_getElem.1 hy
    have hc' : c < 2 * g := by rw [← ht.len _ hxn]; exact hc
    have e : (t.row x.toNat)[c] = t.at x.toNat c := by unfold Tb.at; simp [List.getD_eq_getElem?_getD, hc]
    rw [e]
    have h1 := hp _ hxn c hc'
    have h2 := (ht.bd _ hxn c hc').2
    unfold numOf
    congr 1
    refine idxOf_map_inj fun z hz he => ?_
    have hbz := hC.bd z hz
    unfold mp at he
    have := hinj z.toNat (t.at x.toNat c).toNat (by omega) (by omega) (by omega)
    omega
  · rw [if_neg (fun h' => hf h'.1), if_neg (fun h' => hf h'.1)]
structure Num (t : Tb) (o : List Int) : Prop where
  len : o.length = t.length
  cos : Cos t.length o
theorem idxOf_get {o : List Int} (hn : o.Nodup) {j : Nat} (hj : j < o.length) : o.idxOf (o.getD j 0) = j := by
  rw [List.getD_eq_getElem?_getD, List.getElem?_eq_getElem hj]
  exact hn.idxOf_getElem j hj
theorem Num.at_ {o : List Int} (h : Num t o) {j : Nat} (hj : j < t.length) : ∃ x, x < t.length ∧ o.getD j 0 = (x : Int) ∧ o.idxOf (x : Int) = j := by
  have h1 := h.cos.get (k := j) (by rw [h.len]; exact hj)
  refine ⟨(o.getD j 0).toNat, by omega, by omega, ?_⟩
  rw [show (((o.getD j 0).toNat : Nat) : Int) = o.getD j 0 by omega]
  exact idxOf_get h.cos.nd (by rw [h.len]; exact hj)
theorem Num.of {o : List Int} (h : Num t o) {x : Nat} (hx : x < t.length) : o.idxOf (x : Int) < t.length ∧ o.getD (o.idxOf (x : Int)) 0 = (x : Int) := by
  have hm := mem_of_full h.cos h.len x hx
  have h1 := List.idxOf_lt_length_of_mem hm
  refine ⟨by rw [← h.len]; exact h1, ?_⟩
  rw [List.getD_eq_getElem?_getD, List.getElem?_eq_getElem h1]
  simp
theorem Full.num (h : Full g t) {b : Nat} (hb : b < t.length) (hr : ∀ x, x < t.length → Reach g t b x) : Num t (ord t (b : Int)) := by
  have hC : Cos t.length (ord t (b : Int)) := Cos.ordTo h.good (by omega) (by omega) t.length
  refine ⟨?_, hC⟩
  refine Nat.le_antisymm (length_le_of_nodup hC) (ge_of_all _ _ fun r hr' => ?_)
  have hin : ∀ x, Reach g t b x → x < t.length ∧ (x : Int) ∈ ord t (b : Int) := fun x hx => by
    induction hx with
    | refl => exact ⟨hb, (ordTo_mono t (b : Int) (Nat.zero_le t.length)).subset (by simp [ordTo])⟩
    | @step y z c _ hc he ih =>
      obtain ⟨h1, h2⟩ := ih
      exact ⟨h.good.elt h1 hc he, by
        obtain ⟨j, hj, he'⟩ := List.mem_iff_getElem.1 h2
        have hle := length_le_of_nodup hC
        have hjl : j < t.length := Nat.lt_of_lt_of_le hj hle
        have hlt : j < (ordTo t (b : Int) j).length := by
          rcases Nat.lt_or_ge j (ordTo t (b : Int) j).length with h3 | h3
          · exact h3
          · have := ordTo_stable t (b : Int) h3 (by omega : j ≤ t.length)
            unfold ord at hj
            rw [this] at hj
            omega
        have hget : (ordTo t (b : Int) j).getD j 0 = (y : Int) := by
          rw [← pre_get (ordTo_mono t (b : Int) (by omega : j ≤ t.length)) hlt]
          unfold ord at he' hj
          rw [List.getD_eq_getElem?_getD, List.getElem?_eq_getElem hj]
          simpa using he'
        have hstep : ordTo t (b : Int) (j + 1) = visitTo (t.row y) (t.row y).length (ordTo t (b : Int) j) := by
          rw [ordTo, if_pos hlt, hget, Int.toNat_natCast]
        have hp := h.pos y h1 c hc
        have hmem : t.at y c ∈ ordTo t (b : Int) (j + 1) := by
          rw [hstep]
          exact mem_visitTo (by rw [h.good.len y h1]; exact hc) hp _
        have := (ordTo_mono t (b : Int) (by omega : j + 1 ≤ t.length)).subset hmem
        rwa [show t.at y c = (z : Int) from he] at this⟩
  exact (hin r (hr r hr')).2
theorem Reach.hm (h : Hm g t u φ) (ht : TGood g t) {x y : Nat} (hx : x < t.length) (hr : Reach g t x y) : y < t.length ∧ Reach g u (φ x) (φ y) := by
  induction hr with
  | refl => exact ⟨hx, .refl _⟩
  | step _ hc he ih =>
    obtain ⟨h1, h2⟩ := ih
    exact ⟨ht.elt h1 hc he, .step h2 hc (h.edge _ _ _ h1 hc he)⟩
theorem Reach.trans {x y z : Nat} (h1 : Reach g t x y) (h2 : Reach g t y z) : Reach g t x z := by
  induction h2 with
  | refl => exact h1
  | step _ hc he ih => exact .step ih hc he
theorem Reach.symm (ht : TGood g t) {x y : Nat} (hx : x < t.length) (h : Reach g t x y) : y < t.length ∧ Reach g t y x := by
  induction h with
  | refl => exact ⟨hx, .refl _⟩
  | step _ hc he ih =>
    obtain ⟨h1, h2⟩ := ih
    exact ⟨ht.elt h1 hc he, (Reach.step (.refl _) (flp_lt2 hc) (ht.eback h1 hc he)).trans h2⟩
theorem Full.reach (h : Full g t) {x y : Nat} (hx : x < t.length) (hy : y < t.length) : Reach g t x y :=
  (Reach.symm h.good h.good.n1 (h.conn x hx)).2.trans (h.conn y hy)
def stdT (t : Tb) (b : Nat) : Tb := outTo (ord t (b : Int)) t t.length
theorem length_stdT (t : Tb) (b : Nat) : (stdT t b).length = t.length := length_outTo _ _ _
theorem row_stdT (t : Tb) (b : Nat) {j : Nat} (hj : j < t.length) : (stdT t b).row j = (t.row ((ord t (b : Int)).getD j 0).toNat).map (numOf (ord t (b : Int))) := by
  unfold stdT outTo Tb.row
  simp [List.getD_eq_getElem?_getD, hj]
structure StdOf (g : Nat) (t : Tb) (b : Nat) (u : Tb) : Prop where
  is : std t (b : Int) = some u
  len : u.length = t.length
  full : Full g u
  std : std u 0 = some u
  there : ∃ φ, Hm g t u φ ∧ φ b = 0 ∧ (∀ x y, x < t.length → y < t.length → φ x = φ y → x = y)
  back : ∃ ψ, Hm g u t ψ ∧ ψ 0 = b ∧ (∀ x y, x < u.length → y < u.length → ψ x = ψ y → x = y)
theorem Full.std_of (h : Full g t) {b : Nat} (hb : b < t.length) : StdOf g t b (stdT t b) := by
  have hN := h.num hb (fun x hx => h.reach hb hx)
  have hl := length_stdT t b
  have hrow : ∀ (j x : Nat), j < t.length → (ord t (b : Int)).getD j 0 = (x : Int) → x < t.length → ∀ c y, c < 2 * g → Edge t x c y → Edge (stdT t b) j c ((ord t (b : Int)).idxOf (y : Int)) := fun j x hj he hx c y hc hy => by
    unfold Edge Tb.at
    rw [row_stdT t b hj, he, Int.toNat_natCast]
    have h1 : c < (t.row x).length := by rw [h.good.len x hx]; exact hc
    have h2 : ((t.row x).map (numOf (ord t (b : Int)))).getD c 0 = numOf (ord t (b : Int)) (t.at x c) := by
      unfold Tb.at
      simp [List.getD_eq_getElem?_getD, h1]
    rw [h2, show t.at x c = (y : Int) from hy]
    rfl
  have hlen : ∀ r, r < t.length → ((stdT t b).row r).length = 2 * g := fun r hr => by
    obtain ⟨x, hx, h1, -⟩ := hN.at_ hr
    rw [row_stdT t b hr, List.length_map, h1, Int.toNat_natCast, h.good.len x hx]
  have hat : ∀ j, j < t.length → ∀ c, c < 2 * g → ∃ x y, x < t.length ∧ y < t.length ∧ Edge t x c y ∧ (ord t (b : Int)).idxOf (x : Int) = j ∧ Edge (stdT t b) j c ((ord t (b : Int)).idxOf (y : Int)) := fun j hj c hc => by
    obtain ⟨x, hx, h1, h2⟩ := hN.at_ hj
    obtain ⟨y, hy, he⟩ := h.edge hx hc
    exact ⟨x, y, hx, hy, he, h2, hrow j x hj h1 hx c y hc he⟩
  have hg : TGood g (stdT t b) := by
    refine ⟨h.good.g1, h.good.g16, by rw [hl]; exact h.good.n1, by rw [hl]; exact h.good.n2, fun r hr => hlen r (by omega), fun r hr c hc => ?_, fun r hr c hc _ => ?_⟩
    · rw [hl] at hr ⊢
      obtain ⟨x, y, hx, hy, he, h2, h3⟩ := hat r hr c hc
      have := (hN.of hy).1
      unfold Edge at h3
      omega
    · rw [hl] at hr
      obtain ⟨x, y, hx, hy, he, h2, h3⟩ := hat r hr c hc
      have h4 := hrow _ y (hN.of hy).1 (hN.of hy).2 hy (flp c) x (flp_lt2 hc) (h.good.eback hx hc he)
      rw [h2] at h4
      unfold Edge at h3 h4
      rw [h3, Int.toNat_natCast, h4]
  have hp : ∀ r, r < (stdT t b).length → ∀ c, c < 2 * g → 0 ≤ (stdT t b).at r c := fun r hr c hc => by
    rw [hl] at hr
    obtain ⟨x, y, hx, hy, he, h2, h3⟩ := hat r hr c hc
    unfold Edge at h3
    omega
  have hto : Hm g t (stdT t b) (fun x => (ord t (b : Int)).idxOf (x : Int)) := ⟨fun x hx => by rw [hl]; exact (hN.of hx).1, fun x c y hx hc he => hrow _ x (hN.of hx).1 (hN.of hx).2 hx c y hc he⟩
  have hinj : ∀ x y, x < t.length → y < t.length → (ord t (b : Int)).idxOf (x : Int) = (ord t (b : Int)).idxOf (y : Int) → x = y := fun x y hx hy e => by
    have h1 := (hN.of hx).2
    rw [e, (hN.of hy).2] at h1
    omega
  have hb0 : (ord t (b : Int)).idxOf (b : Int) = 0 := by
    have h1 : [(b : Int)] <+: ord t (b : Int) := ordTo_mono t (b : Int) (Nat.zero_le t.length)
    have h2 := idxOf_pre h1 (List.mem_singleton.2 rfl)
    unfold numOf at h2
    simp at h2
    exact h2
  have hstd : Ct.std t (b : Int) = some (stdT t b) := std_full h.good (by omega) (by omega) hN.len fun j hj c hc => by
    obtain ⟨x, hx, h1, -⟩ := hN.at_ hj
    rw [h1, Int.toNat_natCast] at hc ⊢
    rw [h.good.len x hx] at hc
    exact h.pos x hx c hc
  have hback : Hm g (stdT t b) t (fun j => ((ord t (b : Int)).getD j 0).toNat) := ⟨fun j hj => by
      rw [hl] at hj
      obtain ⟨x, hx, h1, -⟩ := hN.at_ hj
      rw [h1, Int.toNat_natCast]; exact hx, fun j c k hj hc he => by
      rw [hl] at hj
      obtain ⟨x, hx, h1, h2⟩ := hN.at_ hj
      obtain ⟨y, hy, h3⟩ := h.edge hx hc
      have h4 := hrow j x hj h1 hx c y hc h3
      have h5 : k = (ord t (b : Int)).idxOf (y : Int) := by unfold Edge at he h4; omega
      show Edge t ((ord t (b : Int)).getD j 0).toNat c ((ord t (b : Int)).getD k 0).toNat
      rw [h1, h5, (hN.of hy).2, Int.toNat_natCast, Int.toNat_natCast]
      exact h3⟩
  refine ⟨hstd, hl, ⟨hg, hp, fun x hx => ?_⟩, ?_, ⟨_, hto, hb0, hinj⟩, ⟨_, hback, ?_, ?_⟩⟩
  · rw [hl] at hx
    obtain ⟨y, hy, -, h2⟩ := hN.at_ hx
    have h3 := (Reach.hm hto h.good hb (h.reach hb hy)).2
    rw [hb0, h2] at h3
    exact h3
  · have := std_map hto h.good hg h.pos hp hinj hl.symm hb
    rw [hb0] at this
    rw [show ((0 : Nat) : Int) = 0 from rfl] at this
    rw [this]
    exact hstd
  · have h1 := (hN.of hb).2
    rw [hb0] at h1
    rw [h1]; rfl
  · intro x y hx hy e
    rw [hl] at hx hy
    obtain ⟨x', hx', h1, h2⟩ := hN.at_ hx
    obtain ⟨y', hy', h3, h4⟩ := hN.at_ hy
    rw [h1, h3, Int.toNat_natCast, Int.toNat_natCast] at e
    rw [← h2, ← h4, e]
end
end Go.Proofs.Ct
namespace Go.Proofs.Ct
def actW {α : Type} (act : α → Nat → α) : α → W → α
  | p, [] => p
  | p, l :: w => actW act (act p (col l)) w
structure Mdl (g : Nat) (rels : List W) {α : Type} (D : α → Prop) (act : α → Nat → α) : Prop where
  cl : ∀ p c, D p → c < 2 * g → D (act p c)
  inv : ∀ p c, D p → c < 2 * g → act (act p c) (flp c) = p
  rel : ∀ p i, D p → i < rels.length → actW act p (rels.getD i []) = p
structure Mp (g : Nat) {α : Type} (D : α → Prop) (act : α → Nat → α) (s : St) (f : Nat → α) : Prop where
  dom : ∀ x, x < s.t.length → D (f x)
  rp : ∀ x, x < s.t.length → f (s.rp x) = f x
  edge : ∀ x c y, x < s.t.length → c < 2 * g → Edge s.t x c y → act (f x) c = f y
section
variable {α : Type} {g lim : Nat} {rels sub : List W} {D : α → Prop} {act : α → Nat → α} {s : St} {f : Nat → α}
theorem actW_app {u v : W} : ∀ {p : α}, actW act p (u ++ v) = actW act (actW act p u) v := by
  induction u with
  | nil => intro p; rfl
  | cons l u ih => intro p; exact ih
theorem Mdl.clW (h : Mdl g rels D act) : ∀ {w : W} {p : α}, LOk g w → D p → D (actW act p w) := by
  intro w
  induction w with
  | nil => intro p _ hp; exact hp
  | cons l w ih => intro p hw hp; exact ih hw.cons.2 (h.cl _ _ hp (col_ltL hw.cons.1))
theorem Mdl.invW (h : Mdl g rels D act) : ∀ {w : W} {p : α}, LOk g w → D p → actW act (actW act p w) (Ct.inv w) = p := by
  intro w
  induction w with
  | nil => intro p _ _; rfl
  | cons l w ih =>
    intro p hw hp
    have hc := col_ltL hw.cons.1
    rw [inv_cons, actW_app]
    show actW act (actW act (actW act (act p (col l)) w) (Ct.inv w)) [-l] = p
    rw [ih hw.cons.2 (h.cl _ _ hp hc)]
    show act (act p (col l)) (col (-l)) = p
    rw [col_inv hw.cons.1.2.2]
    exact h.inv p _ hp hc
theorem Mp.merge (h : Mp g D act s f) (hI : Inv g s) {a b : Nat} (ha : a < s.t.length) (hb : b < s.t.length) (e : f a = f b) : Mp g D act (mergeS s a b) f := by
  have ht := t_merge s a b
  refine ⟨by rw [ht]; exact h.dom, fun x hx => ?_, by rw [ht]; exact h.edge⟩
  rw [ht] at hx
  rw [rp_merge hI ha hb hx]
  have h1 := h.rp x hx
  have h2 := h.rp a ha
  have h3 := h.rp b hb
  split
  · rename_i e2
    rw [e2] at h1
    rcases Nat.le_total (s.rp a) (s.rp b) with h' | h'
    · rw [Nat.min_eq_left h']
      rw [Nat.max_eq_right h'] at h1
      rw [h2, e, ← h3, h1]
    · rw [Nat.min_eq_right h']
      rw [Nat.max_eq_left h'] at h1
      rw [h3, ← e, ← h2, h1]
  · exact h1
theorem Mp.step (_hM : Mdl g rels D act) (h : Mp g D act s f) (hI : Inv g s) {e c : Nat} (he : e < s.t.length) (hc : c < 2 * g) : Mp g D act (stepS e c s) f := by
  unfold stepS
  by_cases hd : s.t.at e c < 0
  · rw [if_pos hd]; exact h
  · rw [if_neg hd]
    have hd' : 0 ≤ s.t.at e c := by omega
    obtain ⟨d, hdd⟩ := Int.eq_ofNat_of_zero_le hd'
    have hE : Edge s.t e c d := hdd
    have hdn := hE.lt hI he hc
    have hcut := hI.cut he hc hd'
    have hat := at_cut hI he hc hd'
    have hlen := length_cut s.t e c
    have hun := hI.rlt he
    have hvn := hI.rlt hdn
    have hf := flp_lt2 hc
    rw [hdd, Int.toNat_natCast] at hat ⊢
    have hM1 : Mp g D act { s with t := cutT s.t e c } f := ⟨fun x hx => h.dom x (by simpa [hlen] using hx), fun x hx => h.rp x (by simpa [hlen] using hx), fun x k y hx hk hy => by
      simp only [hlen] at hx
      unfold Edge at hy
      simp only at hy
      rw [hat] at hy
      split at hy
      · omega
      · exact h.edge x k y hx hk hy⟩
    have hfe := h.edge e c d he hc hE
    have hfb := h.edge d (flp c) e hdn hf (hE.back hI he hc)
    have hre := h.rp e he
    have hrd := h.rp d hdn
    generalize hs1 : ({ s with t := cutT s.t e c } : St) = s1 at *
    have ht1 : s1.t = cutT s.t e c := by rw [← hs1]
    have hn1 : s1.t.length = s.t.length := by rw [ht1, hlen]
    rw [← ht1] at hat ⊢
    by_cases h1 : 0 ≤ s1.t.at (s.rp e) c
    · rw [if_pos h1]
      obtain ⟨w, hw⟩ := Int.eq_ofNat_of_zero_le h1
      have hE1 : Edge s1.t (s.rp e) c w := hw
      have hwn : w < s1.t.length := hE1.lt hcut (by rw [hn1]; exact hun) hc
      have h2 := hM1.edge _ c w (by rw [hn1]; exact hun) hc hE1
      rw [hw, Int.toNat_natCast]
      exact hM1.merge hcut hwn (by rw [hn1]; exact hvn) (by rw [← h2, hre, hfe, hrd])
    · rw [if_neg h1]
      by_cases h2 : 0 ≤ s1.t.at (s.rp d) (flp c)
      · rw [if_pos h2]
        obtain ⟨w, hw⟩ := Int.eq_ofNat_of_zero_le h2
        have hE1 : Edge s1.t (s.rp d) (flp c) w := hw
        have hwn : w < s1.t.length := hE1.lt hcut (by rw [hn1]; exact hvn) hf
        have h3 := hM1.edge _ (flp c) w (by rw [hn1]; exact hvn) hf hE1
        rw [hw, Int.toNat_natCast]
        exact hM1.merge hcut hwn (by rw [hn1]; exact hun) (by rw [← h3, hrd, hfb, hre])
      · rw [if_neg h2]
        have haj := at_join hcut (u := s.rp e) (v := s.rp d) (c := c) (by omega) (by omega) hc
        have hlj := length_join s1.t (s.rp e) c (s.rp d)
        refine ⟨fun x hx => h.dom x (by simp only [hlj] at hx; omega), fun x hx => h.rp x (by simp only [hlj] at hx; omega), fun x k y hx hk hy => ?_⟩
        simp only [hlj] at hx
        unfold Edge at hy
        simp only at hy
        rw [haj] at hy
        split at hy
        · rename_i e1
          have : y = s.rp e := by omega
          rw [this, e1.1, e1.2, hrd, hre]
          exact hfb
        · split at hy
          · rename_i e1
            have : y = s.rp d := by omega
            rw [this, e1.1, e1.2, hrd, hre]
            exact hfe
          · exact hM1.edge x k y hx hk hy
theorem proc_mp (hM : Mdl g rels D act) (h : Mp g D act s f) (hI : Inv g s) {k : Nat} (hq : QI g k 0 s) (hk : k < s.q.length) : ∀ c, c ≤ 2 * g → Mp g D act (procTo (s.q.getD k 0) c s) f
  | 0, _ => h
  | c + 1, hc => by
    have ih := proc_mp hM h hI hq hk c (by omega)
    obtain ⟨h1, h2, h3, h4, h5, h6⟩ := proc_q hI hq hk c (by omega)
    have hlt : s.q.getD k 0 < (procTo (s.q.getD k 0) c s).t.length := by rw [h2.n]; exact (hq.qd k hk).1
    exact ih.step hM h1 hlt (by omega)
theorem coinTo_mp (hM : Mdl g rels D act) (h : Mp g D act s f) (hI : Inv g s) (hq : QI g 0 0 s) : ∀ k, Mp g D act (coinTo (2 * g) k s) f
  | 0 => h
  | k + 1 => by
    have ih := coinTo_mp hM h hI hq k
    obtain ⟨h1, h2, h3, h4⟩ := coinTo_inv hI hq k
    unfold coinTo at h1 h2 h3 h4 ih ⊢
    rw [foldTo]
    generalize foldTo (fun k s => if k < s.q.length then procTo (s.q.getD k 0) (2 * g) s else s) k s = s1 at *
    by_cases hk : k < s1.q.length
    · rw [if_pos hk]
      rw [show min k s1.q.length = k by omega] at h3
      exact proc_mp hM ih h1 h3 hk (2 * g) (Nat.le_refl _)
    · rw [if_neg hk]; exact ih
theorem Mp.coin (hM : Mdl g rels D act) (h : Mp g D act s f) (hR : Rest g s) {a b : Nat} (ha : a < s.t.length) (hb : b < s.t.length) (e : f a = f b) : Mp g D act (coinS (2 * g) s a b) f := by
  have h0 : Inv g { s with q := [] } := ⟨hR.inv.len, hR.inv.bd, hR.inv.rl, hR.inv.rle, hR.inv.rid, hR.inv.back⟩
  have hq0 : QI g 0 0 { s with q := [] } := ⟨fun x hx hd c hc h0 => absurd h0 (by have := hR.dead x hx hd c hc; simp only at h0; omega), fun j hj => absurd hj (by simp), Nat.zero_le _, hR.lv⟩
  have hm := h0.merge (a := a) (b := b) ha hb
  have hqm := hq0.merge h0 (.inr ⟨rfl, rfl⟩) (a := a) (b := b) ha hb
  have hf : Mp g D act { s with q := [] } f := ⟨h.dom, h.rp, h.edge⟩
  exact coinTo_mp hM (hf.merge h0 ha hb e) hm hqm s.t.length
theorem Mp.way (h : Mp g D act s f) (hI : Inv g s) : ∀ {w : W} {x y : Nat}, LOk g w → x < s.t.length → Way s.t x w y → actW act (f x) w = f y := by
  intro w
  induction w with
  | nil => intro x y _ _ e; have e : x = y := e; rw [e]; rfl
  | cons l w ih =>
    rintro x y hw hx ⟨z, h1, h2⟩
    have hz := h1.lt hI hx (col_ltL hw.cons.1)
    show actW act (act (f x) (col l)) w = f y
    rw [h.edge _ _ _ hx (col_ltL hw.cons.1) h1]
    exact ih hw.cons.2 hz h2
theorem Mp.join (hM : Mdl g rels D act) (h : Mp g D act s f) (hI : Inv g s) {u v c : Nat} (hu : u < s.t.length) (hv : v < s.t.length) (hc : c < 2 * g) (e : act (f u) c = f v) : Mp g D act (joinS s u c v) f := by
  have haj := at_join hI hu hv hc
  have hlj := length_joinS (s := s) u c v
  refine ⟨fun x hx => h.dom x (by omega), fun x hx => h.rp x (by omega), fun x k y hx hk hy => ?_⟩
  rw [hlj] at hx
  have hy' : (joinT s.t u c v).at x k = (y : Int) := hy
  rw [haj] at hy'
  split at hy'
  · rename_i e1
    have : y = u := by omega
    rw [this, e1.1, e1.2, ← e]
    exact hM.inv _ _ (h.dom u hu) hc
  · split at hy'
    · rename_i e1
      have : y = v := by omega
      rw [this, e1.1, e1.2]
      exact e
    · exact h.edge x k y hx hk hy'
theorem Mp.defn (hM : Mdl g rels D act) (h : Mp g D act s f) (hI : Inv g s) {r c : Nat} (hr : r < s.t.length) (hc : c < 2 * g) : Mp g D act (defS (2 * g) s r c) (fun x => if x = s.t.length then act (f r) c else f x) := by
  have hla := length_add (s := s) (2 * g)
  have h1 : Mp g D act (addS (2 * g) s) (fun x => if x = s.t.length then act (f r) c else f x) := by
    refine ⟨fun x hx => ?_, fun x hx => ?_, fun x k y hx hk hy => ?_⟩
    · rw [hla] at hx
      split
      · exact hM.cl _ _ (h.dom r hr) hc
      · exact h.dom x (by omega)
    · rw [hla] at hx
      rcases Nat.lt_or_ge x s.t.length with h2 | h2
      · have := hI.rlt h2
        rw [rp_add_old hI _ h2, if_neg (by omega), if_neg (by omega)]
        exact h.rp x h2
      · obtain rfl : x = s.t.length := by omega
        rw [rp_add_new hI]
    · rw [hla] at hx
      rcases Nat.lt_or_ge x s.t.length with h2 | h2
      · unfold Edge at hy
        rw [at_add_old _ h2] at hy
        have := Edge.lt hI h2 hk hy
        rw [if_neg (by omega), if_neg (by omega)]
        exact h.edge x k y h2 hk hy
      · obtain rfl : x = s.t.length := by omega
        unfold Edge at hy
        rw [at_add_new _ _ hk] at hy
        omega
  exact h1.join hM hI.add (u := r) (v := s.t.length) (c := c) (by omega) (by omega) hc (by rw [if_neg (by omega), if_pos rfl])
theorem scan_mp (hM : Mdl g rels D act) (h : Mp g D act s f) (hR : Rest g s) {r : Nat} (hr : r < s.t.length) (hlr : s.rp r = r) {w : W} (hw : LOk g w) (hcl : actW act (f r) w = f r) : ∀ s', scanS (2 * g) s r w = (s', none) → Mp g D act s' f := by
  obtain ⟨f1, f2, f3⟩ := fwd_spec s.t r w
  have fp := fwd_pos s.t r w
  obtain ⟨b1, b2, b3⟩ := bwd_spec s.t r w (fwd s.t r w)
  have bp := bwd_pos s.t r w (fwd s.t r w)
  obtain ⟨fl, flv⟩ := lead_live hR hw hr hlr _ f1 fp
  obtain ⟨bl, blv⟩ := lead_live hR hw.inv hr hlr _ (by rw [length_inv]; exact b1) bp
  have hF := way_of_lead _ f1 fp
  have hB := way_inv hR.inv (fun x hx => hw.inv x (List.mem_of_mem_take hx)) hr (way_of_lead _ (by rw [length_inv]; exact b1) bp)
  rw [drop_inv b1] at hB
  have hik : fwd s.t r w + bwd s.t r w (fwd s.t r w) ≤ w.length := by
    rcases Nat.eq_zero_or_pos (bwd s.t r w (fwd s.t r w)) with h0 | h0
    · omega
    · have := (b3 (bwd s.t r w (fwd s.t r w) - 1) (by omega)).1
      omega
  have hwt : ∀ k, LOk g (w.take k) := fun k x hx => hw x (List.mem_of_mem_take hx)
  have hwd : ∀ k, LOk g (w.drop k) := fun k x hx => hw x (List.mem_of_mem_drop hx)
  unfold scanS
  generalize hi : fwd s.t r w = i at *
  generalize hk : bwd s.t r w i = k at *
  generalize leadTo s.t r w i = a at *
  generalize leadTo s.t r (Ct.inv w) k = b at *
  have hFa := h.way hR.inv (hwt i) hr hF
  have hBa := h.way hR.inv (hwd _) bl hB
  have hinvd : ∀ j, actW act (actW act (f r) (w.take j)) (w.drop j) = f r := fun j => by rw [← actW_app, List.take_append_drop]; exact hcl
  have hcan : ∀ j p q, LOk g (w.drop j) → D p → D q → actW act p (w.drop j) = actW act q (w.drop j) → p = q := fun j p q h1 hp hq e => by
    rw [← hM.invW h1 hp, e, hM.invW h1 hq]
  intro s' e
  by_cases h1 : i = w.length
  · rw [if_pos h1] at e
    by_cases h2 : a = (r : Int)
    · rw [if_pos h2] at e
      cases e; exact h
    · rw [if_neg h2] at e
      cases e
      refine h.coin hM hR fl hr ?_
      rw [← hFa, h1, List.take_length]
      exact hcl
  · rw [if_neg h1] at e
    by_cases h2 : w.length ≤ i + k
    · rw [if_pos h2] at e
      cases e
      refine h.coin hM hR fl bl ?_
      have hi' : w.length - k = i := by omega
      rw [hi'] at hBa
      refine hcan i _ _ (hwd i) (h.dom _ fl) (h.dom _ bl) ?_
      rw [hBa, ← hFa]
      exact hinvd i
    · rw [if_neg h2] at e
      have hil : i < w.length := by omega
      by_cases h3 : w.length = i + k + 1
      · rw [if_pos h3] at e
        cases e
        refine h.join hM hR.inv fl bl (hw.col hil) ?_
        rw [show w.length - k = i + 1 by omega] at hBa
        have hD : D (act (f a.toNat) (col (w.getD i 0))) := hM.cl _ _ (h.dom _ fl) (hw.col hil)
        refine hcan (i + 1) _ _ (hwd (i + 1)) hD (h.dom _ bl) ?_
        rw [hBa, ← hFa]
        have := hinvd (i + 1)
        rw [take_snocW hil, actW_app] at this
        exact this
      · rw [if_neg h3] at e
        cases e
end
end Go.Proofs.Ct
namespace Go.Proofs.Ct
structure Coset (g : Nat) (rels sub : List W) (t : Tb) : Prop where
  full : Full g t
  std : std t 0 = some t
  rel : ∀ i, i < t.length → ∀ j, j < rels.length → Way t i (rels.getD j []) i
  subc : ∀ j, j < sub.length → Way t 0 (sub.getD j []) 0
  univ : ∀ {α : Type} {D : α → Prop} {act : α → Nat → α} {p0 : α}, Mdl g rels D act → D p0 → (∀ j, j < sub.length → actW act p0 (sub.getD j []) = p0) → ∃ φ : Nat → α, φ 0 = p0 ∧ (∀ x, x < t.length → D (φ x)) ∧ ∀ x c y, x < t.length → c < 2 * g → Edge t x c y → act (φ x) c = φ y
section
variable {g lim : Nat} {rels sub : List W} {t u : Tb} {φ ψ : Nat → Nat}
theorem tab_from {s : St} (h : Rest g s) {i c k : Nat} (hc : c < 2 * g) (hi : i < (tabS s).length) (hp : ∀ x, x < s.t.length → 0 ≤ s.t.at (s.rp x) c) (he : Edge (tabS s) i c k) : ∃ x y, x < s.t.length ∧ y < s.t.length ∧ Edge s.t x c y ∧ (liv s).getD i 0 = x ∧ (liv s).getD k 0 = y := by
  rw [length_tab] at hi
  obtain ⟨h1, h2, h3⟩ := livTo_at (s := s) s.t.length i hi
  have h4 := hp _ h1
  rw [h2] at h4
  obtain ⟨y, hy⟩ := Int.eq_ofNat_of_zero_le h4
  have hE : Edge s.t ((livTo s s.t.length).getD i 0) c y := hy
  obtain ⟨-, h5, h6⟩ := h.live h1 hc hE
  have h7 := (tab_edge h h1 hc hE).2
  rw [h3] at h7
  have h8 : k = num s y := by unfold Edge at he h7; omega
  exact ⟨_, y, h1, h6, hE, rfl, by rw [h8]; exact (num_lt (n := s.t.length) h6 h5).2⟩
def nx (t : Tb) (x c : Nat) : Nat := (t.at x c).toNat
def fib (φ : Nat → Nat) (n a : Nat) : Nat := (List.range n).countP fun x => decide (φ x = a)
end
end Go.Proofs.Ct
namespace Go.Proofs.Ct
def MI (s : St) : Prop := s.live ≤ s.most ∧ s.most ≤ s.t.length
section
variable {g lim : Nat} {s s1 : St} {rels sub : List W}
theorem live_le (h : Rest g s) (h1 : Rest g s1) (he : Ext g s s1) (hn : s1.t.length = s.t.length) : s1.live ≤ s.live := by
  have a := h.lv
  have b := h1.lv
  have hd : dc s ≤ dc s1 := by
    unfold dc
    rw [hn]
    refine List.countP_mono_left fun x hx hp => ?_
    have hx' : x < s.t.length := by simpa using hx
    have h2 : s.rp x ≠ x := by simpa using hp
    have h3 := h.inv.rle x hx'
    have h4 := he.coarse x hx'
    have h5 := h1.inv.rle (s.rp x) (by rw [hn]; exact h.inv.rlt hx')
    have : s1.rp x ≠ x := by omega
    simpa using this
  omega
theorem livTo_dc (s : St) : ∀ n, (livTo s n).length + (List.range n).countP (fun x => decide (s.rp x ≠ x)) = n
  | 0 => rfl
  | n + 1 => by
    have ih := livTo_dc s n
    rw [livTo_succ, List.range_succ, List.countP_append]
    by_cases h : s.rp n = n
    · rw [if_pos h]; simp [h]; simp at ih; omega
    · rw [if_neg h]; simp [h]; simp at ih; omega
theorem liv_live (h : Rest g s) : ((liv s).length : Int) = s.live := by
  have h1 := h.lv
  have h2 := livTo_dc s s.t.length
  have h3 : (liv s).length + dc s = s.t.length := h2
  omega
end
end Go.Proofs.Ct
