/- coset.Enumerate: what it answers, and how its results are read; coset.Enumerate. -/
import Derived.Test.YtffkmchmakfcpaaOrCS11
import Derived.Test.YtffkmchmakfcpaaOrCS7
namespace Go.Proofs.B18
open Go.RowKit Go.Shelf Go.Proofs.Ct Go.Maps
/-- are the words and the limit refused? -/
def badArgs (g : Nat) (sub : List W) (limit : Int) : Bool := decide (100 < sub.length) || decide (4000 < sumTo sub sub.length) || (sub.any fun w => w.any (letBad g)) || decide (limit < 1) || decide (20000 < limit)
def enumE (g : Int) (rels sub : List W) (limit : Int) : Tb × (Int × Int) × Int :=
  if presE g rels ≠ 0 then ([], (0, 0), presE g rels) else
  if badArgs g.toNat sub limit = true then ([], (0, 0), 2) else
  match runS (2 * g.toNat) limit.toNat rels sub with
  | none => ([], (0, 0), 12)
  | some s => ((stdE g (tabS s) 0).1, ((s.t.length : Int), s.most), 0)
def EnumPost (g : Int) (rels sub : List W) (limit : Int) (w : World) (e : Ending) (w' : World) : Prop :=
  (∃ u, e = .returned (.tuple #[u, .agg #[.int .i64 (enumE g rels sub limit).2.1.1, .int .i64 (enumE g rels sub limit).2.1.2, .int .i64 0], .int .i64 (enumE g rels sub limit).2.2]) ∧ Tab w' u (enumE g rels sub limit).1) ∧ Below w.heap.size w w'
theorem enumE_pres {g : Int} {rels sub : List W} {limit : Int} (h : presE g rels ≠ 0) : enumE g rels sub limit = ([], (0, 0), presE g rels) := by unfold enumE; rw [if_pos h]
theorem enumE_bad {g : Nat} {rels sub : List W} {limit : Int} (h : presE g rels = 0) (h2 : badArgs g sub limit = true) : enumE g rels sub limit = ([], (0, 0), 2) := by unfold enumE; rw [if_neg (by rw [h]; simp), Int.toNat_natCast, if_pos h2]
theorem enumE_full {g lim : Nat} {rels sub : List W} (h : presE g rels = 0) (h2 : badArgs g sub lim = false) (h3 : runS (2 * g) lim rels sub = none) : enumE g rels sub lim = ([], (0, 0), 12) := by
  unfold enumE; rw [if_neg (by rw [h]; simp), Int.toNat_natCast, if_neg (by rw [h2]; simp), Int.toNat_natCast, h3]
theorem enumE_some {g lim : Nat} {rels sub : List W} {s : St} (h : presE g rels = 0) (h2 : badArgs g sub lim = false) (h3 : runS (2 * g) lim rels sub = some s) : enumE g rels sub lim = ((stdE g (tabS s) 0).1, ((s.t.length : Int), s.most), 0) := by
  unfold enumE; rw [if_neg (by rw [h]; simp), Int.toNat_natCast, if_neg (by rw [h2]; simp), Int.toNat_natCast, h3]
theorem EnumPost.err {g : Int} {rels sub : List W} {limit : Int} {w w' : World} {x : Int} (h : enumE g rels sub limit = ([], (0, 0), x)) (hb : Below w.heap.size w w') : EnumPost g rels sub limit w (.returned (.tuple #[.slice none 0 0, .agg #[.int .i64 0, .int .i64 0, .int .i64 0], .int .i64 x])) w' := by
  unfold EnumPost
  rw [h]
  exact ⟨⟨_, rfl, tab_nil⟩, hb⟩
theorem neg82_any (w : World) (B g : Nat) (u : Value) (ws : List Int) (hg : g ≤ 16) (hc : w.cell? ⟨B, 0, none⟩ = some (.int .i64 (g : Int))) (hu : IntsAt w u ws) :
    Calls Try.prog 87 #[u, .pointer (some ⟨B, 0, none⟩)] w fun e w' => e = .returned (.bool (ws.any (letBad g))) ∧ Below w.heap.size w w' := by
  have HC := Lib.hid (fine83_any w g u ws hg hu)
  obtain ⟨A, c, rfl, -, -, -⟩ := hu.open_
  clear hu
  generalize ws.any (letBad g) = b at *
  go_enter Try.func87, Try.ntmps87
  go_wp2_with (go_at_call 88; (refine HC.out.mono ?_); rintro e w' ⟨rfl, hb⟩; have HB := Lib.hid hb; clear hb)
  go_ret
  exact ⟨ret_bool (by simp), HB.out⟩
theorem eg82 : ∀ args w, (callFunc 87 args).run Try.prog w = .ok (.enter 87 args) w := enters_of Try.func87 (by kernel_rfl) rfl
/-- the results are read out of their cells -/
theorem res32 {q : Nat} {w : World} {v : Value} {a b c e : Int} (h : ResC q w v a b c e) (tmps : Array Value) (h6 : tmps[6]? = some (.pointer (some ⟨q, 0, none⟩))) (h7 : tmps[7]? = some (.pointer (some ⟨q + 1, 0, none⟩))) (h8 : tmps[8]? = some (.pointer (some ⟨q + 1 + 1, 0, none⟩))) :
    (results Try.f48 tmps).run Try.prog w = .ok (.tuple #[v, .agg #[.int .i64 a, .int .i64 b, .int .i64 c], .int .i64 e]) w := by
  obtain ⟨c0, c1, c2, c3, c4, -, -, -, -, -⟩ := h
  simp [results, Try.results48, go_sem, h6, h7, h8, asAddr, c0, c1, c2, c3, c4]
theorem leave32 {q : Nat} {w : World} {v : Value} {a b c e : Int} (h : ResC q w v a b c e) (tmps : Array Value) (h6 : tmps[6]? = some (.pointer (some ⟨q, 0, none⟩))) (h7 : tmps[7]? = some (.pointer (some ⟨q + 1, 0, none⟩))) (h8 : tmps[8]? = some (.pointer (some ⟨q + 1 + 1, 0, none⟩))) {R : Ending → World → Prop}
    (hR : R (.returned (.tuple #[v, .agg #[.int .i64 a, .int .i64 b, .int .i64 c], .int .i64 e])) w) : Leaves Try.prog Try.f48 tmps R [] .returning w := ⟨_, res32 h tmps h6 h7 h8, hR⟩
end Go.Proofs.B18
namespace Go.Proofs.B18
open Go.RowKit Go.Shelf Go.Proofs.Ct Go.Maps
theorem resC_made (w : World) (x : Array Value) : ResC (w.heap.size + 1) ((((w.alloc (.cells x 46)).alloc (.cells #[.slice none 0 0] 74)).alloc (.cells #[.int .i64 0, .int .i64 0, .int .i64 0] 76)).alloc (.cells #[.int .i64 0] 29)) (.slice none 0 0) 0 0 0 0 := by
  constructor <;> simp [go_sem]
/-- the state that Enumerate lays -/
def made116 (w : World) (g lim : Nat) : World := w.alloc (.cells #[.int .i64 (2 * (g : Int)), .int .i64 (lim : Int), .slice none 0 0, .slice none 0 0, .slice none 0 0, .int .i64 0, .int .i64 0] 131)
theorem StP.made (w : World) (g lim : Nat) : StP w.heap.size w.heap.size (2 * g) lim (made116 w g lim) nilS := by
  refine ⟨Nat.le_refl _, [], .slice none 0 0, .slice none 0 0, .slice none 0 0, fun _ => 0, fun _ => 0, ⟨?_⟩, ⟨World.ownsRow_nil _ _ _ _, fun i hi => absurd hi (Nat.not_lt_zero _), fun i j hi => absurd hi (Nat.not_lt_zero _), World.ownsRow_nil _ _ _ _, World.ownsRow_nil _ _ _ _, fun i hi => absurd hi (Nat.not_lt_zero _), fun i hi => absurd hi (Nat.not_lt_zero _), (fun r hr => by cases hr), ⟨rfl, fun x hx => absurd hx (Nat.not_lt_zero _)⟩⟩⟩
  have := heap_alloc_new w (.cells #[.int .i64 (2 * (g : Int)), .int .i64 (lim : Int), .slice none 0 0, .slice none 0 0, .slice none 0 0, .int .i64 0, .int .i64 0] 131)
  have e : ((2 * g : Nat) : Int) = 2 * (g : Int) := by omega
  rw [e]
  exact this
theorem made116_below (w : World) (g lim : Nat) : Below w.heap.size w (made116 w g lim) := (Below.refl _ _).alloc (Nat.le_refl _) _
theorem made116_size (w : World) (g lim : Nat) : w.heap.size ≤ (made116 w g lim).heap.size := (made116_below w g lim).size
theorem Words.of {w : World} {v : Value} {l : List W} (h : Tab w v l) {w' : World} (hb : Below w.heap.size w w') : Words w.heap.size w' v l := ⟨w, rfl, h, hb⟩
theorem addr_ne {a b : Addr} (h : a.block ≠ b.block ∨ a.off ≠ b.off) : a ≠ b := fun e => by
  subst e
  rcases h with h | h <;> exact h rfl
theorem ResC.set2 {q : Nat} {w : World} {v : Value} {a b c e : Int} (h : ResC q w v a b c e) (v' : Value) (e' : Int) : ResC q ((w.setCell ⟨q, 0, none⟩ v').setCell ⟨q + 1 + 1, 0, none⟩ (.int .i64 e')) v' a b c e' := by
  obtain ⟨c0, c1, c2, c3, c4, f0, f1, f2, f3, f4⟩ := h
  refine ⟨(cell_set (cell_set c0 _) _).trans ?_, (cell_set (cell_set c1 _) _).trans ?_, (cell_set (cell_set c2 _) _).trans ?_, (cell_set (cell_set c3 _) _).trans ?_, (cell_set (cell_set c4 _) _).trans ?_, ?_, ?_, ?_, ?_, ?_⟩ <;> simp [f0, f1, f2, f3, f4]
theorem TabB.setCell {B : Nat} {w : World} {u : Value} {l : List (List Int)} (h : TabB B w u l) {p : Addr} (hp : p.block < B) (v : Value) : TabB B (w.setCell p v) u l :=
  h.keep (by simp [World.setCell]) fun k h1 _ => Below.heap_setCell w p v k (by omega)
theorem setR_tabB {B q : Nat} {w : World} {u : Value} {l : List (List Int)} (h : TabB B w u l) (h1 : q + 1 < B) (h2 : q + 1 + 1 < B) (v : Value) (a b c e : Int) : TabB B (setR q w v a b c e) u l :=
  ((((h.setCell (p := ⟨q, 0, none⟩) (by show q < B; omega) v).setCell (p := ⟨q + 1, 0, none⟩) h1 _).setCell (p := ⟨q + 1, 1, none⟩) h1 _).setCell (p := ⟨q + 1, 2, none⟩) h1 _).setCell (p := ⟨q + 1 + 1, 0, none⟩) h2 _
theorem StP.tops {base b m lim : Nat} {w : World} {s : St} (h : StP base b m lim w s) : ∃ A c, w.cell? ⟨b, 2, none⟩ = some (.slice A s.t.length c) ∧ w.cell? ⟨b, 6, none⟩ = some (.int .i64 s.most) := by
  obtain ⟨-, P, vr, vp, vq, bl, cs, hB, hC⟩ := h
  obtain ⟨A, c, rfl⟩ := owns_form hC.out
  exact ⟨A, c, hB.cells.2.2.1, hB.cells.2.2.2.2.2.2⟩
/-- what the last statement reads -/
abbrev S16 (q p : Nat) (u r m : Value) (W : World) : Prop := W.cell? ⟨q, 0, none⟩ = some u ∧ W.cell? ⟨p, 2, none⟩ = some r ∧ W.cell? ⟨p, 6, none⟩ = some m ∧ W.cell? ⟨q + 1 + 1, 0, none⟩ = some (.int .i64 0)
theorem S16.drew {q p : Nat} {u r m : Value} {W : World} (h : S16 q p u r m W) : S16 q p u r m W.drew := h
theorem S16.st0 {q p : Nat} {u r m : Value} {W : World} (h : S16 q p u r m W) : S16 q p u r m (W.setCell ⟨q, 0, none⟩ u) :=
  ⟨(cell_set h.1 _).trans (by simp), (cell_set h.2.1 _).trans (by simp), (cell_set h.2.2.1 _).trans (by simp), (cell_set h.2.2.2 _).trans (by simp)⟩
theorem S16.st1 {q p : Nat} {u r m : Value} {W : World} (h : S16 q p u r m W) (a b : Value) (hne : q + 1 ≠ p) : ∀ c : Value, S16 q p u r m (((W.setCell ⟨q + 1, 0, none⟩ a).setCell ⟨q + 1, 1, none⟩ b).setCell ⟨q + 1, 2, none⟩ c) := fun c =>
  ⟨(cell_set (cell_set (cell_set h.1 _) _) _).trans (by simp), (cell_set (cell_set (cell_set h.2.1 _) _) _).trans (by simp), (cell_set (cell_set (cell_set h.2.2.1 _) _) _).trans (by simp), (cell_set (cell_set (cell_set h.2.2.2 _) _) _).trans (by simp)⟩
theorem S16.st2 {q p : Nat} {u r m : Value} {W : World} (h : S16 q p u r m W) : S16 q p u r m (W.setCell ⟨q + 1 + 1, 0, none⟩ (.int .i64 0)) :=
  ⟨(cell_set h.1 _).trans (by simp), (cell_set h.2.1 _).trans (by simp), (cell_set h.2.2.1 _).trans (by simp), (cell_set h.2.2.2 _).trans (by simp)⟩
theorem sumTo_le {sub : List W} (h : ∀ j, (sub.getD j []).length ≤ 100000) : ∀ k, sumTo sub k ≤ k * 100000
  | 0 => Nat.zero_le _
  | k + 1 => by
    have := sumTo_le h k
    have := h k
    show sumTo sub k + (sub.getD k []).length ≤ (k + 1) * 100000
    omega
/-- what Enumerate answers, and in which blocks its table lies -/
def EnumPostB (g : Int) (rels sub : List W) (limit : Int) (w : World) (e : Ending) (w' : World) : Prop :=
  (∃ u, e = .returned (.tuple #[u, .agg #[.int .i64 (enumE g rels sub limit).2.1.1, .int .i64 (enumE g rels sub limit).2.1.2, .int .i64 0], .int .i64 (enumE g rels sub limit).2.2]) ∧ TabB w.heap.size w' u (enumE g rels sub limit).1) ∧ Below w.heap.size w w'
theorem EnumPostB.err {g : Int} {rels sub : List W} {limit : Int} {w w' : World} {x : Int} (h : enumE g rels sub limit = ([], (0, 0), x)) (hb : Below w.heap.size w w') : EnumPostB g rels sub limit w (.returned (.tuple #[.slice none 0 0, .agg #[.int .i64 0, .int .i64 0, .int .i64 0], .int .i64 x])) w' := by
  unfold EnumPostB
  rw [h]
  exact ⟨⟨_, rfl, TabB.nil⟩, hb⟩
theorem EnumPostB.plain {g : Int} {rels sub : List W} {limit : Int} {w w' : World} {e : Ending} (h : EnumPostB g rels sub limit w e w') : EnumPost g rels sub limit w e w' := by
  obtain ⟨⟨u, h1, h2⟩, h3⟩ := h
  exact ⟨⟨u, h1, h2.at_⟩, h3⟩
theorem TabB.low {B B' : Nat} {w : World} {u : Value} {l : List (List Int)} (h : TabB B w u l) (hb : B' ≤ B) : TabB B' w u l := fun w' hk => h w' fun k h1 h2 => hk k (Nat.le_trans hb h1) h2
theorem TabB.belowB {B : Nat} {w w' : World} {u : Value} {l : List (List Int)} (h : TabB B w u l) (hb : Below w.heap.size w w') : TabB B w' u l := h.keep hb.size fun k _ h2 => hb.block k h2
set_option maxRecDepth 100000 in
set_option maxHeartbeats 4000000 in
theorem enum32_B (w : World) (vr vs : Value) (g : Int) (rels sub : List W) (limit : Int) (hR : Tab w vr rels) (hS : Tab w vs sub) (hsm : ∀ j, (sub.getD j []).length ≤ 100000) (hsl : sub.length ≤ 1000000) : Calls Try.prog 48 #[.agg #[.int .i64 g, vr], vs, .int .i64 limit] w (EnumPostB g rels sub limit w) := by
  obtain ⟨Ar, cr, rfl⟩ := Tab.form hR
  obtain ⟨As, cs, rfl⟩ := Tab.form hS
  have H78 : Hid (∀ W, Tab W (.slice Ar rels.length cr) rels → Calls Try.prog 85 #[.agg #[.int .i64 g, .slice Ar rels.length cr]] W fun e w' => (∃ y, e = .returned (.tuple #[.int .i64 (presE g rels), .int .i64 y])) ∧ Below W.heap.size W w') := Lib.hid fun W h => pcheck78_any W _ _ rels h
  have hmf : ∀ (fn : Fn) (first cap : Array Value) (w : World), (Instr.makeFunc fn first cap).run Try.prog w = .ok (.func fn first cap) w := fun _ _ _ _ => rfl
  have HPB : Hid (∀ w0 : World, w0 = (((w.alloc (.cells #[.int .i64 g, .slice Ar rels.length cr] 46)).alloc (.cells #[.slice none 0 0] 74)).alloc (.cells #[.int .i64 0, .int .i64 0, .int .i64 0] 76)).alloc (.cells #[.int .i64 0] 29) → Below w.heap.size w w0 ∧ w0.heap.size = w.heap.size + 4 ∧ w0.heap[w.heap.size]? = some (.cells #[.int .i64 g, .slice Ar rels.length cr] 46 (0, 0)) ∧ ResC (w.heap.size + 1) w0 (.slice none 0 0) 0 0 0 0) := Lib.hid fun w0 h => by
    subst h
    refine ⟨((((Below.refl _ _).alloc (Nat.le_refl _) _).alloc (by simp) _).alloc (by simp; omega) _).alloc (by simp; omega) _, by simp, ?_, resC_made w _⟩
    have h0 := heap_alloc_new w (.cells #[.int .i64 g, .slice Ar rels.length cr] 46)
    have hb : Below (w.heap.size + 1) (w.alloc (.cells #[.int .i64 g, .slice Ar rels.length cr] 46)) ((((w.alloc (.cells #[.int .i64 g, .slice Ar rels.length cr] 46)).alloc (.cells #[.slice none 0 0] 74)).alloc (.cells #[.int .i64 0, .int .i64 0, .int .i64 0] 76)).alloc (.cells #[.int .i64 0] 29)) := (((Below.refl _ _).alloc (by simp) _).alloc (by simp) _).alloc (by simp) _
    exact (hb.block _ (by omega)).trans h0
  have HRR := Lib.hid hR
  have HSS := Lib.hid hS
  clear hR hS
  go_enter_defers Try.func48, Try.ntmps48
  go_wp2_with fail
  generalize hw0 : (((w.alloc (.cells #[.int .i64 g, .slice Ar rels.length cr] 46)).alloc (.cells #[.slice none 0 0] 74)).alloc (.cells #[.int .i64 0, .int .i64 0, .int .i64 0] 76)).alloc (.cells #[.int .i64 0] 29) = w0 at *
  obtain ⟨hb0, hsz, hbp, hrc⟩ := HPB.out w0 rfl
  have HB0 := Lib.hid hb0
  have HSZ := Lib.hid hsz
  have HBX : Hid (∀ W, Below w0.heap.size w0 W → W.cell? ⟨w.heap.size, 0, none⟩ = some (.int .i64 g) ∧ W.cell? ⟨w.heap.size, 1, none⟩ = some (.slice Ar rels.length cr) ∧ ResC (w.heap.size + 1) W (.slice none 0 0) 0 0 0 0) := Lib.hid fun W h => by
    obtain ⟨a, b⟩ := cell_of2 ((h.block _ (Array.getElem?_eq_some_iff.1 hbp).1).trans hbp)
    exact ⟨a, b, hrc.below hrc.lt h⟩
  clear hw0 hb0 hsz hbp hrc HPB
  by_cases he : presE g rels = 0
  · have d1 : (presE g rels != 0) = false := by simp [he]
    have HE := Lib.hid he
    clear he
    generalize hxe : presE g rels = x at *
    have HXE := Lib.hid hxe
    clear hxe
    go_wp2_with (first
      | (go_at_call 85; (with_reducible refine (H78.out w0 (kept_tab.below HRR.out HB0.out)).mono ?_); rintro e w1 ⟨⟨y, rfl⟩, hb⟩
         have HB1 := Lib.hid hb
         clear hb))
    go_loopg [11, 26] sub.length (fun n l i wx => ∃ k : Nat, i = .int .i64 (k : Int) ∧ n = sub.length - k ∧ k ≤ sub.length ∧ l = .int .i64 ((sumTo sub k : Nat) : Int) ∧ w1 = wx)
    case atStart => exact ⟨0, rfl, by omega, Nat.zero_le _, rfl, rfl⟩
    case round =>
      obtain ⟨k, rfl, hgk, hk, rfl, rfl⟩ := hrel
      have HGK := Lib.hid hgk
      clear hgk
      have hk0 : (0 : Int) ≤ (k : Int) := Int.natCast_nonneg _
      have hsk := sumTo_le hsm k
      have hsk0 : (0 : Int) ≤ ((sumTo sub k : Nat) : Int) := Int.natCast_nonneg _
      have hsk1 : ((sumTo sub k : Nat) : Int) ≤ 100000000000 := by
        have : k * 100000 ≤ 1000000 * 100000 := Nat.mul_le_mul_right _ (by omega)
        omega
      clear hsk
      by_cases hlt : k < sub.length
      · have hltI : (k : Int) < (sub.length : Int) := by omega
        have hT := kept_tab.below HSS.out (HB0.out.trans (HB1.out.mono HB0.out.size))
        obtain ⟨bs, os, rfl, hcell⟩ := hT.cells (by omega)
        obtain ⟨u, hu, hI⟩ := hcell k hlt
        obtain ⟨Au, cu, rfl, hu1, hu2, -⟩ := hI.open_
        have hlu := hsm k
        have HSU : Hid (sumTo sub (k + 1) = sumTo sub k + (sub.getD k []).length) := Lib.hid rfl
        generalize hgl : (sub.getD k []).length = L at *
        have hl0 : (0 : Int) ≤ (L : Int) := Int.natCast_nonneg _
        have hl1 : (L : Int) ≤ 100000 := by omega
        clear hT hcell hI hu1 hu2 hlu hgl
        go_wp2_with fail
        go_roundg (sub.length - (k + 1))
        case measure => have := HGK.out; omega
        case rel => exact ⟨k + 1, by go_num, rfl, by omega, by rw [HSU.out]; go_num, rfl⟩
      · obtain rfl : k = sub.length := by omega
        clear hlt
        obtain ⟨gn, rfl, hg1, hg16, hrl, hrg⟩ := presE_good (HXE.out.trans HE.out)
        have hpz : presE (gn : Int) rels = 0 := HXE.out.trans HE.out
        have HPZ := Lib.hid hpz
        obtain ⟨-, -, hrc⟩ := HBX.out _ HB1.out
        have HRC := Lib.hid hrc
        have HRG := Lib.hid hrg
        have hcg := (HBX.out _ HB1.out).1
        have hcr := (HBX.out _ HB1.out).2.1
        obtain ⟨c0, c1, c2, c3, c4, f0, f1, f2, f3, f4⟩ := hrc
        have HW1 := Lib.hid (HB0.out.trans (HB1.out.mono HB0.out.size))
        clear hrg hpz
        have H81 : Hid (Calls Try.prog 86 #[.slice As sub.length cs, .func (.func 87) #[] #[.pointer (some ⟨w.heap.size, 0, none⟩)]] w1 fun e w' => e = .returned (.bool (sub.any fun w => w.any (letBad gn))) ∧ Below w1.heap.size w1 w') := Lib.hid (
          has81_any 87 _ (fun w => w.any (letBad gn)) w1 eg82 _ sub (kept_tab.below HSS.out HW1.out) fun W' u k hb hk hI => neg82_any W' w.heap.size gn u _ hg16 ((hb.cell (p := ⟨w.heap.size, 0, none⟩) (World.block_lt_of_cell? _ _ hcg)).trans hcg) hI)
        have HBAD : Hid (badArgs gn sub limit = true → enumE (gn : Int) rels sub limit = ([], (0, 0), 2)) := Lib.hid fun h => enumE_bad HPZ.out h
        by_cases h1 : (100 : Int) < (sub.length : Int)
        · have HBA : Hid (enumE (gn : Int) rels sub limit = ([], (0, 0), 2)) := Lib.hid (HBAD.out (by unfold badArgs; simp; omega))
          clear HBAD
          have HRC2 := Lib.hid (HRC.out.set (.slice none 0 0) 0 0 0 2)
          go_wp2_with fail
          refine leave32 (q := w.heap.size + 1) HRC2.out _ rfl rfl rfl ?_
          exact EnumPostB.err HBA.out (setR_below HW1.out (by omega) _ _ _ _ _)
        · by_cases h2 : (4000 : Int) < ((sumTo sub sub.length : Nat) : Int)
          · have HBA : Hid (enumE (gn : Int) rels sub limit = ([], (0, 0), 2)) := Lib.hid (HBAD.out (by unfold badArgs; simp; omega))
            clear HBAD
            have HRC2 := Lib.hid (HRC.out.set (.slice none 0 0) 0 0 0 2)
            go_wp2_with fail
            refine leave32 (q := w.heap.size + 1) HRC2.out _ rfl rfl rfl ?_
            exact EnumPostB.err HBA.out (setR_below HW1.out (by omega) _ _ _ _ _)
          · cases h3 : (sub.any fun w => w.any (letBad gn)) with
            | true =>
              have HBA : Hid (enumE (gn : Int) rels sub limit = ([], (0, 0), 2)) := Lib.hid (HBAD.out (by unfold badArgs; rw [h3]; simp))
              clear HBAD
              rw [h3] at H81
              clear h3
              go_wp2_with (first
                | (go_at_call 86; (with_reducible refine H81.out.mono ?_); rintro e w2 ⟨rfl, hb⟩
                   have HB2 := Lib.hid (HB1.out.trans (hb.mono HB1.out.size))
                   have HW2 := Lib.hid (HW1.out.trans (hb.mono HW1.out.size))
                   obtain ⟨-, -, hrc⟩ := HBX.out _ HB2.out
                   clear c0 c1 c2 c3 c4 f0 f1 f2 f3 f4
                   have HRC2 := Lib.hid (hrc.set (.slice none 0 0) 0 0 0 2)
                   obtain ⟨c0, c1, c2, c3, c4, f0, f1, f2, f3, f4⟩ := hrc
                   clear hb))
              refine leave32 (q := w.heap.size + 1) HRC2.out _ rfl rfl rfl ?_
              exact EnumPostB.err HBA.out (setR_below HW2.out (by omega) _ _ _ _ _)
            | false =>
              by_cases h4 : limit < 1 ∨ 20000 < limit
              · have HBA : Hid (enumE (gn : Int) rels sub limit = ([], (0, 0), 2)) := Lib.hid (HBAD.out (by unfold badArgs; simp; omega))
                clear HBAD
                rw [h3] at H81
                clear h3
                rcases h4 with h4 | h4
                all_goals
                  go_wp2_with (first
                    | (go_at_call 86; (with_reducible refine H81.out.mono ?_); rintro e w2 ⟨rfl, hb⟩
                       have HB2 := Lib.hid (HB1.out.trans (hb.mono HB1.out.size))
                       have HW2 := Lib.hid (HW1.out.trans (hb.mono HW1.out.size))
                       obtain ⟨-, -, hrc⟩ := HBX.out _ HB2.out
                       clear c0 c1 c2 c3 c4 f0 f1 f2 f3 f4
                       have HRC2 := Lib.hid (hrc.set (.slice none 0 0) 0 0 0 2)
                       obtain ⟨c0, c1, c2, c3, c4, f0, f1, f2, f3, f4⟩ := hrc
                       clear hb))
                  refine leave32 (q := w.heap.size + 1) HRC2.out _ rfl rfl rfl ?_
                  exact EnumPostB.err HBA.out (setR_below HW2.out (by omega) _ _ _ _ _)
              · have h4a : 1 ≤ limit := by omega
                have h4b : limit ≤ 20000 := by omega
                have HOK : Hid (badArgs gn sub limit = false) := Lib.hid (by unfold badArgs; rw [h3]; simp; omega)
                have HSG := Lib.hid (subs_good h3)
                rw [h3] at H81
                obtain ⟨lim, rfl⟩ : ∃ lim : Nat, limit = (lim : Int) := ⟨limit.toNat, by omega⟩
                have HRUN : Hid (∀ w2, Below w0.heap.size w0 w2 → Below w.heap.size w w2 → Calls Try.prog 90 #[.pointer (some ⟨w2.heap.size, 0, none⟩), .slice Ar rels.length cr, .slice As sub.length cs] (made116 w2 gn lim) fun e w' => ((∃ s', runS (2 * gn) lim rels sub = some s' ∧ e = .returned (.tuple #[]) ∧ StP w2.heap.size w2.heap.size (2 * gn) lim w' s') ∨ (runS (2 * gn) lim rels sub = none ∧ e = .panicked fullP)) ∧ Below w2.heap.size (made116 w2 gn lim) w') := Lib.hid fun w2 hb0 hb => by
                  refine run85_any gn (2 * gn) w2.heap.size w2.heap.size lim rfl hg16 (made116 w2 gn lim) _ _ rels sub (StP.made w2 gn lim) (made116_size w2 gn lim) (by omega) (by omega) (Words.of (kept_tab.below HRR.out hb) (made116_below w2 gn lim)) (Words.of (kept_tab.below HSS.out hb) (made116_below w2 gn lim)) (getD_all (fun j hj => (HRG.out j hj).1) LOk.nil) (getD_all (fun j hj => HSG.out j hj) LOk.nil)
                clear h3 HBAD h4
                cases hrun : runS (2 * gn) lim rels sub with
                | none =>
                  have HEN := Lib.hid (enumE_full HPZ.out HOK.out hrun)
                  rw [hrun] at HRUN
                  clear hrun
                  go_wp2_with (first
                    | (go_at_call 86; (with_reducible refine H81.out.mono ?_); rintro e w2 ⟨rfl, hb⟩
                       have HB2 := Lib.hid (HB1.out.trans (hb.mono HB1.out.size))
                       have HW2 := Lib.hid (HW1.out.trans (hb.mono HW1.out.size))
                       clear c0 c1 c2 c3 c4 f0 f1 f2 f3 f4 hcg hcr
                       obtain ⟨hcg, hcr, -⟩ := HBX.out _ HB2.out
                       have hcr2 : (w2.alloc (.cells #[.int .i64 (2 * (gn : Int)), .int .i64 (lim : Int), .slice none 0 0, .slice none 0 0, .slice none 0 0, .int .i64 0, .int .i64 0] 131)).cell? ⟨w.heap.size, 1, none⟩ = some (.slice Ar rels.length cr) := (HBX.out _ (HB2.out.trans ((made116_below w2 gn lim).mono HB2.out.size))).2.1
                       clear hb)
                    | (go_at_call 90; (refine ((HRUN.out w2 HB2.out HW2.out).mono (R' := fun e w' => e = .panicked fullP ∧ Below w2.heap.size (made116 w2 gn lim) w') fun e w' ⟨h, hb⟩ => ⟨by
                         rcases h with ⟨s', h, -⟩ | ⟨-, h⟩
                         · cases h
                         · exact h, hb⟩).mono ?_); rintro e w3 ⟨rfl, hb⟩
                       have HB3 := Lib.hid (HB2.out.trans (((made116_below w2 gn lim).trans hb).mono HB2.out.size))
                       have HW3 := Lib.hid (HW2.out.trans (((made116_below w2 gn lim).trans hb).mono HW2.out.size))
                       clear hb))
                  have hrc3 := (HBX.out _ HB3.out).2.2
                  refine leaves_cons (f := 89) (args := #[.pointer (some ⟨w.heap.size + 1, 0, none⟩), .pointer (some ⟨w.heap.size + 1 + 1, 0, none⟩), .pointer (some ⟨w.heap.size + 1 + 1 + 1, 0, none⟩)]) (by simp) (by simp [go_sem]) ?_
                  refine (catch84_full (w.heap.size + 1) w.heap.size w3 _ _ _ _ _ (by omega) hrc3).mono ?_
                  rintro e u' w4 ⟨rfl, rfl, hrc4, hb4⟩
                  exact leave32 hrc4 _ rfl rfl rfl (EnumPostB.err HEN.out (HW3.out.trans hb4))
                | some s' =>
                  have HEN := Lib.hid (enumE_some HPZ.out HOK.out hrun)
                  have hgc := run_good (lim := lim) (g := gn) (by omega) (fun j hj => (HRG.out j hj).1) (fun j hj => HSG.out j hj) hrun
                  have hts := tab_std hg1 hg16 (by omega) hgc.1 hgc.2
                  have HTS : Hid ((stdE gn (tabS s') 0).2 = 0) := Lib.hid (by rw [hts.2])
                  have HTG := Lib.hid hts.1
                  have HGC := Lib.hid hgc
                  have H86 : Hid (∀ W b, StP b b (2 * gn) lim W s' → Calls Try.prog 92 #[.pointer (some ⟨b, 0, none⟩)] W fun e w' => ∃ u, e = .returned u ∧ Tab w' u (tabS s') ∧ Below W.heap.size W w') := Lib.hid fun W b h => table86_any gn (2 * gn) b b lim rfl hg16 hg1 W s' h HGC.out.1 HGC.out.2 (by omega)
                  have H48 : Hid (∀ W u, Tab W u (tabS s') → Calls Try.prog 91 #[.int .i64 (gn : Int), u, .int .i64 0] W fun e w' => (∃ u, e = .returned (.tuple #[u, .int .i64 0]) ∧ TabB W.heap.size w' u (stdE gn (tabS s') 0).1) ∧ Below W.heap.size W w') := Lib.hid fun W u h => (std48_goodB W u gn (tabS s') 0 h HTG.out (Int.le_refl _) (by have := HTG.out.n1; omega)).mono fun e w' ⟨⟨u, h1, h2⟩, h3⟩ => ⟨⟨u, by rw [h1, HTS.out], h2⟩, h3⟩
                  rw [hrun] at HRUN
                  clear hrun hgc hts
                  go_wp2_with (first
                    | (go_at_call 86; (with_reducible refine H81.out.mono ?_); rintro e w2 ⟨rfl, hb⟩
                       have HB2 := Lib.hid (HB1.out.trans (hb.mono HB1.out.size))
                       have HW2 := Lib.hid (HW1.out.trans (hb.mono HW1.out.size))
                       clear c0 c1 c2 c3 c4 f0 f1 f2 f3 f4 hcg hcr
                       obtain ⟨hcg, hcr, -⟩ := HBX.out _ HB2.out
                       have hcr2 : (w2.alloc (.cells #[.int .i64 (2 * (gn : Int)), .int .i64 (lim : Int), .slice none 0 0, .slice none 0 0, .slice none 0 0, .int .i64 0, .int .i64 0] 131)).cell? ⟨w.heap.size, 1, none⟩ = some (.slice Ar rels.length cr) := (HBX.out _ (HB2.out.trans ((made116_below w2 gn lim).mono HB2.out.size))).2.1
                       clear hb)
                    | (go_at_call 90; (refine ((HRUN.out w2 HB2.out HW2.out).mono (R' := fun e w' => e = .returned (.tuple #[]) ∧ StP w2.heap.size w2.heap.size (2 * gn) lim w' s' ∧ Below w2.heap.size (made116 w2 gn lim) w') fun e w' ⟨h, hb⟩ => by
                         rcases h with ⟨s'', h1, h2, h3⟩ | ⟨h, -⟩
                         · cases h1; exact ⟨h2, h3, hb⟩
                         · cases h).mono ?_); rintro e w3 ⟨rfl, hs3, hb⟩
                       have HB3 := Lib.hid (HB2.out.trans (((made116_below w2 gn lim).trans hb).mono HB2.out.size))
                       have HW3 := Lib.hid (HW2.out.trans (((made116_below w2 gn lim).trans hb).mono HW2.out.size))
                       have HS3 := Lib.hid hs3
                       clear hb hs3))
                  clear hcr2 hcg hcr
                  have HSX : Hid (∀ W, Below w3.heap.size w3 W → StP w2.heap.size w2.heap.size (2 * gn) lim W s') := Lib.hid fun W h => HS3.out.below h
                  have hcg := (HBX.out _ HB3.out).1
                  generalize hQ : w.heap.size = Q at *
                  generalize hQ2 : w2.heap.size = Q2 at *
                  have HQ := Lib.hid hQ
                  have HQ2 := Lib.hid hQ2
                  clear hQ hQ2
                  go_region_held3 (fun w' => w'.cell? ⟨Q, 0, none⟩ = some (.int .i64 (gn : Int))) (first | go_keep | (rw [World.cell?_setCell_other _ _ _ _ (by intro h; injection h with h; omega), World.cell?_setCell_other _ _ _ _ (by intro h; injection h with h; omega)]; assumption))
                    (first
                      | (go_at_call 92; (refine (H86.out _ _ (HSX.out _ (Below.refl _ w3).drew)).mono ?_); rintro e w4 ⟨u, rfl, ht4, hb⟩
                         have hb4 : Below w3.heap.size w3 w4 := (Below.refl _ w3).drew.trans hb
                         have HB4 := Lib.hid hb4
                         have HT4 := Lib.hid ht4
                         have hcg4 := (HBX.out _ (HB3.out.trans (hb4.mono HB3.out.size))).1
                         obtain ⟨A4, n4, rfl⟩ := Tab.form ht4
                         clear hb hb4 ht4)
                      | (go_at_call 91; (refine (H48.out _ _ HT4.out).mono ?_); rintro e w5 ⟨⟨u5, rfl, ht5⟩, hb⟩
                         have hb5 : Below w3.heap.size w3 w5 := HB4.out.trans (hb.mono HB4.out.size)
                         have HB5 := Lib.hid hb5
                         have HT5 := Lib.hid ht5
                         obtain ⟨hcg5, -, hrc5⟩ := HBX.out _ (HB3.out.trans (hb5.mono HB3.out.size))
                         have HRC5 := Lib.hid hrc5
                         obtain ⟨c0, c1, c2, c3, c4, f0, f1, f2, f3, f4⟩ := hrc5
                         obtain ⟨A5, n5, rfl⟩ := Tab.form ht5.at_
                         clear hb hb5 ht5))
                  obtain ⟨Ag, cg, r2, r6⟩ := (HSX.out _ HB5.out).tops
                  have hq4 : Q + 1 + 1 + 1 < w4.heap.size := by
                    have h1 := HRC5.out.lt
                    have h2 := HB4.out.size
                    have h3 := HB3.out.size
                    have h4 := HSZ.out
                    omega
                  have hQw : Q ≤ w3.heap.size := by have := HW3.out.size; have := HQ.out; omega
                  have HT6 := Lib.hid ((HT5.out.setCell (p := ⟨Q + 1, 0, none⟩) (by show Q + 1 < _; omega) (.slice A5 (stdE gn (tabS s') 0).1.length n5)).setCell (p := ⟨Q + 1 + 1 + 1, 0, none⟩) hq4 (.int .i64 0))
                  have hrc6 := HRC5.out.set2 (.slice A5 (stdE gn (tabS s') 0).1.length n5) 0
                  have HW6 : Hid (Below Q w ((w5.setCell ⟨Q + 1, 0, none⟩ (.slice A5 (stdE gn (tabS s') 0).1.length n5)).setCell ⟨Q + 1 + 1 + 1, 0, none⟩ (.int .i64 0))) := Lib.hid (((HW3.out.trans (HB5.out.mono hQw)).setCell (p := ⟨Q + 1, 0, none⟩) (by show Q ≤ Q + 1; omega) _).setCell (p := ⟨Q + 1 + 1 + 1, 0, none⟩) (by show Q ≤ Q + 1 + 1 + 1; omega) _)
                  have s2 : ((w5.setCell ⟨Q + 1, 0, none⟩ (.slice A5 (stdE gn (tabS s') 0).1.length n5)).setCell ⟨Q + 1 + 1 + 1, 0, none⟩ (.int .i64 0)).cell? ⟨Q2, 2, none⟩ = some (.slice Ag s'.t.length cg) := by
                    rw [World.cell?_setCell_other _ _ _ _ (addr_ne (.inr (by simp))), World.cell?_setCell_other _ _ _ _ (addr_ne (.inr (by simp)))]; exact r2
                  have s6 : ((w5.setCell ⟨Q + 1, 0, none⟩ (.slice A5 (stdE gn (tabS s') 0).1.length n5)).setCell ⟨Q + 1 + 1 + 1, 0, none⟩ (.int .i64 0)).cell? ⟨Q2, 6, none⟩ = some (.int .i64 s'.most) := by
                    rw [World.cell?_setCell_other _ _ _ _ (addr_ne (.inr (by simp))), World.cell?_setCell_other _ _ _ _ (addr_ne (.inr (by simp)))]; exact r6
                  generalize (w5.setCell ⟨Q + 1, 0, none⟩ (.slice A5 (stdE gn (tabS s') 0).1.length n5)).setCell ⟨Q + 1 + 1 + 1, 0, none⟩ (.int .i64 0) = W6 at *
                  have HRC6 := Lib.hid hrc6
                  have HRC7 := Lib.hid (hrc6.set (.slice A5 (stdE gn (tabS s') 0).1.length n5) s'.t.length s'.most 0 0)
                  clear c0 c1 c2 c3 c4 f0 f1 f2 f3 f4 r2 r6 hcg hcg4 hcg5
                  obtain ⟨c0, c1, c2, c3, c4, f0, f1, f2, f3, f4⟩ := hrc6
                  have hl0 : (0 : Int) ≤ (s'.t.length : Int) := Int.natCast_nonneg _
                  have HNQ : Hid (Q + 1 + 1 ≠ Q2) := Lib.hid (by
                    have h1 := HB2.out.size
                    have h4 := HSZ.out
                    have h5 := HQ2.out
                    omega)
                  have HS0 : Hid (S16 (Q + 1) Q2 (.slice A5 (stdE gn (tabS s') 0).1.length n5) (.slice Ag s'.t.length cg) (.int .i64 s'.most) W6) := Lib.hid ⟨c0, s2, s6, c4⟩
                  go_wp2_with fail
                  go_region_held3 (fun w' => w'.cell? ⟨Q + 1, 0, none⟩ = some (.slice A5 (stdE gn (tabS s') 0).1.length n5) ∧ w'.cell? ⟨Q2, 2, none⟩ = some (.slice Ag s'.t.length cg) ∧ w'.cell? ⟨Q2, 6, none⟩ = some (.int .i64 s'.most) ∧ w'.cell? ⟨Q + 1 + 1 + 1, 0, none⟩ = some (.int .i64 0))
                    (first | with_reducible exact HS0.out.drew | with_reducible exact HS0.out.st0.drew | with_reducible exact (HS0.out.st0.st1 _ _ HNQ.out _).drew | with_reducible exact (HS0.out.st0.st1 _ _ HNQ.out _).st2.drew)
                    (fail)
                  go_wp2_with fail
                  refine leaves_cons (f := 89) (args := #[.pointer (some ⟨Q + 1, 0, none⟩), .pointer (some ⟨Q + 1 + 1, 0, none⟩), .pointer (some ⟨Q + 1 + 1 + 1, 0, none⟩)]) (by simp) (by simp [go_sem]) ?_
                  refine (catch84_idle _ _ _ _).mono ?_
                  rintro e u' w9 ⟨rfl, rfl, hb9⟩
                  have hb8 : Below (setR (Q + 1) W6 (.slice A5 (stdE gn (tabS s') 0).1.length n5) s'.t.length s'.most 0 0).heap.size (setR (Q + 1) W6 (.slice A5 (stdE gn (tabS s') 0).1.length n5) s'.t.length s'.most 0 0) w9 := (Below.refl _ _).drew.trans hb9
                  have hrc9 : ResC (Q + 1) w9 (.slice A5 (stdE gn (tabS s') 0).1.length n5) s'.t.length s'.most 0 0 := HRC7.out.below HRC7.out.lt hb8
                  refine leave32 hrc9 _ rfl rfl rfl ?_
                  unfold EnumPostB
                  rw [HEN.out]
                  have hT7 := setR_tabB HT6.out (by omega) hq4 (.slice A5 (stdE gn (tabS s') 0).1.length n5) s'.t.length s'.most 0 0
                  refine ⟨⟨_, rfl, (hT7.belowB hb8).low (by have := HQ.out; omega)⟩, ?_⟩
                  have hb7 := setR_below HW6.out (q := Q + 1) (by omega) (.slice A5 (stdE gn (tabS s') 0).1.length n5) s'.t.length s'.most 0 0
                  rw [HQ.out]
                  exact hb7.trans (hb8.mono (by have := hb7.size; have := HQ.out; omega))
  · have d1 : (presE g rels != 0) = true := by simpa using he
    have HE : Hid (enumE g rels sub limit = ([], (0, 0), presE g rels)) := Lib.hid (enumE_pres he)
    generalize presE g rels = x at *
    clear he
    go_wp2_with (first
      | (go_at_call 85; (with_reducible refine (H78.out w0 (kept_tab.below HRR.out HB0.out)).mono ?_); rintro e w1 ⟨⟨y, rfl⟩, hb⟩
         have HB1 := Lib.hid hb
         obtain ⟨-, -, hrc⟩ := HBX.out _ hb
         have HRC := Lib.hid (hrc.set (.slice none 0 0) 0 0 0 x)
         obtain ⟨c0, c1, c2, c3, c4, f0, f1, f2, f3, f4⟩ := hrc
         clear hb))
    refine leave32 (q := w.heap.size + 1) HRC.out _ rfl rfl rfl ?_
    exact EnumPostB.err HE.out (setR_below (HB0.out.trans (HB1.out.mono HB0.out.size)) (by omega) _ _ _ _ _)
theorem enum32_any (w : World) (vr vs : Value) (g : Int) (rels sub : List W) (limit : Int) (hR : Tab w vr rels) (hS : Tab w vs sub) (hsm : ∀ j, (sub.getD j []).length ≤ 100000) (hsl : sub.length ≤ 1000000) : Calls Try.prog 48 #[.agg #[.int .i64 g, vr], vs, .int .i64 limit] w (EnumPost g rels sub limit w) :=
  (enum32_B w vr vs g rels sub limit hR hS hsm hsl).mono fun _ _ h => h.plain
end Go.Proofs.B18
