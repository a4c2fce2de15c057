/- Word lists as they are laid by literals; tietze's functions at given arguments; The walk of the law's awake; The law that Eliminate answers as the reference does; Arguments opened: lists of numbers, tables, presentations; Arguments opened: presentations. -/
import Derived.Test.YtmmbmhjdnlmedaaGreatElCS20
import Derived.Test.YtmmbmhjdnlmedaaGreatElCS23
import Derived.Test.YtmmbmhjdnlmedaaGreatElCS10
import Derived.Test.YtmmbmhjdnlmedaaGreatElCS1
import Derived.ProofKit
import Derived.Deep.Slices
import Derived.Deep.Strs
namespace Go.Proofs
open Go.RowKit Go.Shelf Go.Lib Go.Sort Go.Proofs.Ct Go.Proofs.Tz Go.Maps
theorem bl3 {a b c : World} (h1 : Below a.heap.size a b) (h2 : Below b.heap.size b c) : Below a.heap.size a c := h1.trans (h2.mono h1.size)
theorem below_sz {w W : World} {o : Obj} (h : Below (w.heap.size + 1) (w.alloc o) W) : Below (w.alloc o).heap.size (w.alloc o) W := by rw [World.size_alloc]; exact h
theorem lit3 (w : World) (x y z : List Int) (hx : Fits x) (hy : Fits y) (hz : Fits z) {n m l : Nat} (hn : x.length = n) (hm : y.length = m) (hl : z.length = l) (hs : n ≤ 1000 ∧ m ≤ 1000 ∧ l ≤ 1000) {e : TypeId} :
    Tab ((((w.alloc (.cells (ints x).toArray 3)).alloc (.cells (ints y).toArray 3)).alloc (.cells (ints z).toArray 3)).alloc (.cells #[.slice (some ⟨w.heap.size, 0, none⟩) n n, .slice (some ⟨w.heap.size + 1, 0, none⟩) m m, .slice (some ⟨w.heap.size + 1 + 1, 0, none⟩) l l] e)) (.slice (some ⟨w.heap.size + 1 + 1 + 1, 0, none⟩) 3 3) [x, y, z] := by
  have h1 := ints_lit w x hx n hn hs.1
  have h2 := ints_lit (w.alloc (.cells (ints x).toArray 3)) y hy m hm hs.2.1
  have h3 := ints_lit ((w.alloc (.cells (ints x).toArray 3)).alloc (.cells (ints y).toArray 3)) z hz l hl hs.2.2
  have h4 := tab_three _ _ _ _ _ _ _ (h1.below (((Below.refl _ _).alloc (Nat.le_refl _) _).alloc (by simp) _)) (h2.below ((Below.refl _ _).alloc (Nat.le_refl _) _)) h3 (e := e)
  simp only [World.size_alloc] at h4
  exact h4
theorem lit3_below (w : World) (x y z : List Int) (n m l : Nat) {e : TypeId} : Below w.heap.size w ((((w.alloc (.cells (ints x).toArray 3)).alloc (.cells (ints y).toArray 3)).alloc (.cells (ints z).toArray 3)).alloc (.cells #[.slice (some ⟨w.heap.size, 0, none⟩) n n, .slice (some ⟨w.heap.size + 1, 0, none⟩) m m, .slice (some ⟨w.heap.size + 1 + 1, 0, none⟩) l l] e)) :=
  ((((Below.refl _ _).alloc (Nat.le_refl _) _).alloc (by simp) _).alloc (by simp; omega) _).alloc (by simp; omega) _
theorem lit4 (w : World) (x y z q : List Int) (hx : Fits x) (hy : Fits y) (hz : Fits z) (hq : Fits q) {n m l k : Nat} (hn : x.length = n) (hm : y.length = m) (hl : z.length = l) (hk : q.length = k) (hs : n ≤ 1000 ∧ m ≤ 1000 ∧ l ≤ 1000 ∧ k ≤ 1000) {e : TypeId} :
    Tab (((((w.alloc (.cells (ints x).toArray 3)).alloc (.cells (ints y).toArray 3)).alloc (.cells (ints z).toArray 3)).alloc (.cells (ints q).toArray 3)).alloc (.cells #[.slice (some ⟨w.heap.size, 0, none⟩) n n, .slice (some ⟨w.heap.size + 1, 0, none⟩) m m, .slice (some ⟨w.heap.size + 1 + 1, 0, none⟩) l l, .slice (some ⟨w.heap.size + 1 + 1 + 1, 0, none⟩) k k] e)) (.slice (some ⟨w.heap.size + 1 + 1 + 1 + 1, 0, none⟩) 4 4) [x, y, z, q] := by
  have h1 := ints_lit w x hx n hn hs.1
  have h2 := ints_lit (w.alloc (.cells (ints x).toArray 3)) y hy m hm hs.2.1
  have h3 := ints_lit ((w.alloc (.cells (ints x).toArray 3)).alloc (.cells (ints y).toArray 3)) z hz l hl hs.2.2.1
  have h4 := ints_lit (((w.alloc (.cells (ints x).toArray 3)).alloc (.cells (ints y).toArray 3)).alloc (.cells (ints z).toArray 3)) q hq k hk hs.2.2.2
  have b : ∀ (W : World) (o : Obj), Below W.heap.size W (W.alloc o) := fun W o => (Below.refl _ _).alloc (Nat.le_refl _) _
  have h5 := heap_alloc_new ((((w.alloc (.cells (ints x).toArray 3)).alloc (.cells (ints y).toArray 3)).alloc (.cells (ints z).toArray 3)).alloc (.cells (ints q).toArray 3)) (.cells #[.slice (some ⟨w.heap.size, 0, none⟩) n n, .slice (some ⟨w.heap.size + 1, 0, none⟩) m m, .slice (some ⟨w.heap.size + 1 + 1, 0, none⟩) l l, .slice (some ⟨w.heap.size + 1 + 1 + 1, 0, none⟩) k k] e)
  simp only [World.size_alloc] at h2 h3 h4 h5
  exact tab_blk (us := [.slice (some ⟨w.heap.size, 0, none⟩) n n, .slice (some ⟨w.heap.size + 1, 0, none⟩) m m, .slice (some ⟨w.heap.size + 1 + 1, 0, none⟩) l l, .slice (some ⟨w.heap.size + 1 + 1 + 1, 0, none⟩) k k]) h5 rfl rfl (by simp) fun i hi => by
    have : i = 0 ∨ i = 1 ∨ i = 2 ∨ i = 3 := by simp at hi; omega
    rcases this with rfl | rfl | rfl | rfl
    · exact (((h1.below (b _ _)).below (b _ _)).below (b _ _)).below (b _ _)
    · exact ((h2.below (b _ _)).below (b _ _)).below (b _ _)
    · exact (h3.below (b _ _)).below (b _ _)
    · exact h4.below (b _ _)
theorem lit4_below (w : World) (x y z q : List Int) (n m l k : Nat) {e : TypeId} : Below w.heap.size w (((((w.alloc (.cells (ints x).toArray 3)).alloc (.cells (ints y).toArray 3)).alloc (.cells (ints z).toArray 3)).alloc (.cells (ints q).toArray 3)).alloc (.cells #[.slice (some ⟨w.heap.size, 0, none⟩) n n, .slice (some ⟨w.heap.size + 1, 0, none⟩) m m, .slice (some ⟨w.heap.size + 1 + 1, 0, none⟩) l l, .slice (some ⟨w.heap.size + 1 + 1 + 1, 0, none⟩) k k] e)) :=
  (((((Below.refl _ _).alloc (Nat.le_refl _) _).alloc (by simp) _).alloc (by simp; omega) _).alloc (by simp; omega) _).alloc (by simp; omega) _
/-- Simplify at given arguments -/
theorem simpK (n : Nat) (rels : List (List Int)) (steps : Nat) (m : Nat) (R I : List (List Int)) (B : List Int) (a b c : Nat) (h1 : presE n rels = 0) (h2 : simpE n rels steps = .inl ⟨m, R, I, B⟩) (hs : steps ≤ 1000) (ha : R.length = a) (hb : I.length = b) (hc : B.length = c) (W : World) (vr : Value) (hr : Tab W vr rels) :
    Calls Tryz.prog 18 #[.agg #[.int .i64 (n : Int), vr], .int .i64 (steps : Int)] W fun e w' => (∃ A1 c1 A2 c2 A3 c3, e = .returned (.tuple #[.agg #[.int .i64 (m : Int), .slice A1 a c1], .slice A2 b c2, .slice A3 c c3, .int .i64 0]) ∧ Tab w' (.slice A1 a c1) R ∧ Tab w' (.slice A2 b c2) I ∧ IntsAt w' (.slice A3 c c3) B) ∧ Below W.heap.size W w' :=
  (simplify10_ok W vr n rels steps hr h1 hs).mono fun e w' ⟨h, hB⟩ => by
    rw [h2] at h
    subst ha hb hc
    obtain ⟨A, a, B, b, C, c, e1, t1, t2, t3⟩ := h
    exact ⟨⟨A, a, B, b, C, c, e1, t1, t2, t3⟩, hB⟩
theorem sameK {W : World} {va vb : Value} {g : Int} {A : List (List Int)} (ha : Tab W va A) (hb : Tab W vb A) : Calls Tryz.prog 13 #[.agg #[.int .i64 g, va], .agg #[.int .i64 g, vb]] W fun e w' => e = .returned (.bool true) ∧ Below W.heap.size W w' :=
  (same26_any W va vb g g A A ha hb).mono fun e w' ⟨h1, h2⟩ => ⟨h1.trans (ret_bool (by simp)), h2⟩
theorem equalK {W : World} {va vb : Value} {A : List (List Int)} (ha : Tab W va A) (hb : Tab W vb A) : Calls Tryz.prog 14 #[va, vb] W fun e w' => e = .returned (.bool true) ∧ Below W.heap.size W w' :=
  (equal8_any W va vb A A ha hb).mono fun e w' ⟨h1, h2⟩ => ⟨h1.trans (ret_bool (by simp)), h2⟩
theorem numbersK {W : World} {va vb : Value} {A : List Int} (ha : IntsAt W va A) (hb : IntsAt W vb A) : Calls Tryz.prog 20 #[va, vb] W fun e w' => e = .returned (.bool true) ∧ Below W.heap.size W w' :=
  (numbers11_any W va vb A A ha hb).mono fun e w' ⟨h1, h2⟩ => ⟨h1.trans (ret_bool (by simp)), h2⟩
theorem pres_awake : presE 3 [[3, -2, -1], [1, 1], [2, 2, 2], [3, 3]] = 0 := by decide +kernel
theorem simp_awake : simpE 3 [[3, -2, -1], [1, 1], [2, 2, 2], [3, 3]] 100 = .inl ⟨2, [[1, 1], [2, 2, 2], [1, 2, 1, 2]], [[1], [2], [1, 2]], [1, 2]⟩ := by kernel_rfl
end Go.Proofs
namespace Go.Proofs
open Go.RowKit Go.Shelf Go.Lib Go.Sort Go.Proofs.Ct Go.Proofs.Tz Go.Maps
set_option maxRecDepth 100000 in
set_option maxHeartbeats 4000000 in
theorem awake12_any (w : World) : Calls Tryz.prog 8 #[] w fun e w' => e = .returned (.bool true) ∧ Below w.heap.size w w' := by
  have HS1 := Lib.hid (simpK 3 [[3, -2, -1], [1, 1], [2, 2, 2], [3, 3]] 100 2 [[1, 1], [2, 2, 2], [1, 2, 1, 2]] [[1], [2], [1, 2]] [1, 2] 3 3 2 pres_awake simp_awake (by decide) rfl rfl rfl)
  go_enter Tryz.func8, Tryz.ntmps8
  have HB0 := Lib.hid (Below.refl w.heap.size w)
  have ht := lit4 w [3, -2, -1] [1, 1] [2, 2, 2] [3, 3] (fits_lit (by decide)) (fits_lit (by decide)) (fits_lit (by decide)) (fits_lit (by decide)) rfl rfl rfl rfl (by decide) (e := 36)
  have hx := lit4_below w [3, -2, -1] [1, 1] [2, 2, 2] [3, 3] 3 2 3 2 (e := 36)
  have HT1 := Lib.hid ht
  have HL2 := Lib.hid hx
  clear ht hx
  have HB3 := Lib.hid (bl3 HB0.out HL2.out)
  clear HB0
  go_wp2_with fail
  refine (HS1.out _ _ HT1.out).mono ?_
  rintro e v4 ⟨⟨A1, c1, A2, c2, A3, c3, rfl, t1, t2, t3⟩, hb⟩
  have HB5 := Lib.hid (bl3 HB3.out hb)
  have HF6 := Lib.hid (kept_tab.below HT1.out hb)
  clear HT1
  clear HB3
  have HF7 := Lib.hid t1
  clear t1
  have HF8 := Lib.hid t2
  clear t2
  have HF9 := Lib.hid t3
  clear t3
  clear hb
  clear HF6
  have HN10 : Hid ((v4.alloc (.cells #[.int .i64 2, .slice A1 3 c1] 24)).heap[v4.heap.size]? = some (.cells #[.int .i64 2, .slice A1 3 c1] 24 (0, 0))) := Lib.hid (heap_alloc_new _ _)
  have HL11 : Hid (Below v4.heap.size v4 (v4.alloc (.cells #[.int .i64 2, .slice A1 3 c1] 24))) := Lib.hid ((Below.refl _ _).alloc (Nat.le_refl _) _)
  have HB12 := Lib.hid (bl3 HB5.out HL11.out)
  have HF13 := Lib.hid (kept_tab.below HF7.out HL11.out)
  clear HF7
  have HF14 := Lib.hid (kept_tab.below HF8.out HL11.out)
  clear HF8
  have HF15 := Lib.hid (IntsAt.below HF9.out HL11.out)
  clear HF9
  clear HB5
  clear HL11
  have ht := lit3 (v4.alloc (.cells #[.int .i64 2, .slice A1 3 c1] 24)) [1, 1] [2, 2, 2] [1, 2, 1, 2] (fits_lit (by decide)) (fits_lit (by decide)) (fits_lit (by decide)) rfl rfl rfl (by decide) (e := 36)
  have hx := lit3_below (v4.alloc (.cells #[.int .i64 2, .slice A1 3 c1] 24)) [1, 1] [2, 2, 2] [1, 2, 1, 2] 2 3 4 (e := 36)
  simp only [World.size_alloc] at ht hx
  replace hx := below_sz hx
  have HT16 := Lib.hid ht
  have HL17 := Lib.hid hx
  clear ht hx
  have HB18 := Lib.hid (bl3 HB12.out HL17.out)
  have HF19 := Lib.hid (kept_tab.below HF13.out HL17.out)
  clear HF13
  have HF20 := Lib.hid (kept_tab.below HF14.out HL17.out)
  clear HF14
  have HF21 := Lib.hid (IntsAt.below HF15.out HL17.out)
  clear HF15
  have HF22 := Lib.hid ((HL17.out.block _ (Array.getElem?_eq_some_iff.1 HN10.out).1).trans HN10.out)
  clear HN10
  clear HB12
  go_wp2_with (first
    | ((with_reducible refine wpList_sel 20 ?_); refine wpList_val rfl (r_loadAt 24 (.tmp 1) _ _ rfl rfl (load40 HN10.out)) ?_))
  refine (sameK HF19.out HT16.out).mono ?_
  rintro e v23 ⟨rfl, hb⟩
  have HB24 := Lib.hid (bl3 HB18.out hb)
  have HF25 := Lib.hid (kept_tab.below HF19.out hb)
  clear HF19
  have HF26 := Lib.hid (kept_tab.below HF20.out hb)
  clear HF20
  have HF27 := Lib.hid (IntsAt.below HF21.out hb)
  clear HF21
  have HF28 := Lib.hid ((hb.block _ (Array.getElem?_eq_some_iff.1 HF22.out).1).trans HF22.out)
  clear HF22
  have HF29 := Lib.hid (kept_tab.below HT16.out hb)
  clear HT16
  clear HB18
  clear hb
  clear HF29
  clear HF25
  clear HF28
  have ht := lit3 v23 [1] [2] [1, 2] (fits_lit (by decide)) (fits_lit (by decide)) (fits_lit (by decide)) rfl rfl rfl (by decide) (e := 36)
  have hx := lit3_below v23 [1] [2] [1, 2] 1 1 2 (e := 36)
  have HT30 := Lib.hid ht
  have HL31 := Lib.hid hx
  clear ht hx
  have HB32 := Lib.hid (bl3 HB24.out HL31.out)
  have HF33 := Lib.hid (kept_tab.below HF26.out HL31.out)
  clear HF26
  have HF34 := Lib.hid (IntsAt.below HF27.out HL31.out)
  clear HF27
  clear HB24
  go_wp2_with fail
  refine (equalK HF33.out HT30.out).mono ?_
  rintro e v35 ⟨rfl, hb⟩
  have HB36 := Lib.hid (bl3 HB32.out hb)
  have HF37 := Lib.hid (kept_tab.below HF33.out hb)
  clear HF33
  have HF38 := Lib.hid (IntsAt.below HF34.out hb)
  clear HF34
  have HF39 := Lib.hid (kept_tab.below HT30.out hb)
  clear HT30
  clear HB32
  clear hb
  clear HF39
  clear HF37
  have HT40 := Lib.hid (ints_lit v35 [1, 2] (fits_lit (by decide)) 2 rfl (by decide))
  have HL41 : Hid (Below v35.heap.size v35 (v35.alloc (.cells (ints [1, 2]).toArray 3))) := Lib.hid ((Below.refl _ _).alloc (Nat.le_refl _) _)
  have HB42 := Lib.hid (bl3 HB36.out HL41.out)
  have HF43 := Lib.hid (IntsAt.below HF38.out HL41.out)
  clear HF38
  clear HB36
  go_wp2_with fail
  refine (numbersK HF43.out HT40.out).mono ?_
  rintro e v44 ⟨rfl, hb⟩
  have HB45 := Lib.hid (bl3 HB42.out hb)
  have HF46 := Lib.hid (IntsAt.below HF43.out hb)
  clear HF43
  have HF47 := Lib.hid (IntsAt.below HT40.out hb)
  clear HT40
  clear HB42
  clear hb
  clear HF47
  clear HF46
  go_wp2_with fail
  go_ret
  exact ⟨rfl, HB45.out⟩
end Go.Proofs
namespace Go.Proofs
open Go.RowKit Go.Shelf Go.Lib Go.Sort Go.Proofs.Ct Go.Proofs.Tz Go.Maps
theorem call8 (args : Array Value) (w : World) : (callFunc 8 args).run Tryz.prog w = .ok (.enter 8 args) w := enters_of Tryz.func8 (by kernel_rfl) rfl args w
theorem call11 (args : Array Value) (w : World) : (callFunc 11 args).run Tryz.prog w = .ok (.enter 11 args) w := enters_of Tryz.func11 (by kernel_rfl) rfl args w
theorem call12 (args : Array Value) (w : World) : (callFunc 12 args).run Tryz.prog w = .ok (.enter 12 args) w := enters_of Tryz.func12 (by kernel_rfl) rfl args w
theorem call13 (args : Array Value) (w : World) : (callFunc 13 args).run Tryz.prog w = .ok (.enter 13 args) w := enters_of Tryz.func13 (by kernel_rfl) rfl args w
theorem call14 (args : Array Value) (w : World) : (callFunc 14 args).run Tryz.prog w = .ok (.enter 14 args) w := enters_of Tryz.func14 (by kernel_rfl) rfl args w
theorem r_eqi {o : Oper} {a : Act} {w : World} (T : TypeId) (x y : Operand) (z : Int) (ho : o.op = .binOp .eql T x y T) (hx : a.eval x = .int .i64 z) (hy : a.eval y = .int .i64 z) : (execOp a.eval o).run Tryz.prog w = .ok (.value (.bool true)) w := by
  unfold execOp
  simp only [ho, hx, hy]
  simp [go_sem]
/-- what vast answers -/
structure VastP (rels : List (List Int)) (e : Ending) : Prop where
  of : ∃ b, e = .returned (.bool b) ∧ (b = false → rels.length ≤ 12 ∧ ∀ j, (rels.getD j []).length ≤ 40)
set_option maxRecDepth 100000 in
set_option maxHeartbeats 2000000 in
/-- a presentation that is not vast has at most twelve relators, of at most forty letters each -/
theorem vast7_any (w : World) (g : Int) (vr : Value) (rels : List (List Int)) (hR : Tab w vr rels) : Calls Tryz.prog 7 #[.agg #[.int .i64 g, vr]] w fun e w' => VastP rels e ∧ Below w.heap.size w w' := by
  obtain ⟨Ar, cr, rfl⟩ := Tab.form hR
  have hb0 : Below w.heap.size w (w.alloc (.cells #[.int .i64 g, .slice Ar rels.length cr] 24)) := (Below.refl _ _).alloc (Nat.le_refl _) _
  obtain ⟨-, x1⟩ := cell_of2 (heap_alloc_new w (.cells #[.int .i64 g, .slice Ar rels.length cr] 24))
  have hrl1 := hR.len_le
  have hrl0 : (0 : Int) ≤ (rels.length : Int) := Int.natCast_nonneg _
  have HB0 := Lib.hid hb0
  have HR0 := Lib.hid (kept_tab.below hR hb0)
  clear hR hb0
  go_enter Tryz.func7, Tryz.ntmps7
  go_wp2_with fail
  generalize hw0 : w.alloc (.cells #[.int .i64 g, .slice Ar rels.length cr] 24) = w0 at *
  clear hw0
  go_loopw [2, 3] (fun _ vi wr => ∃ i : Nat, vi = .int .i64 (i : Int) ∧ i ≤ rels.length ∧ i ≤ 13 ∧ Hid (∀ j, j < i → (rels.getD j []).length ≤ 40) ∧ wr = w0) (fun _ vi _ => 13 - (intOf vi).toNat)
  case atStart => exact ⟨0, rfl, Nat.zero_le _, Nat.zero_le _, Lib.hid fun j hj => absurd hj (Nat.not_lt_zero j), rfl⟩
  case round =>
    obtain ⟨i, rfl, hi, hi13, HZ, rfl⟩ := hrel
    have hi0 : (0 : Int) ≤ (i : Int) := Int.natCast_nonneg _
    by_cases hil : i < rels.length
    · have hil' : (i : Int) < (rels.length : Int) := by omega
      by_cases h13 : i < 13
      · have h13' : (i : Int) < 13 := by omega
        obtain ⟨b, o, rfl, hrow⟩ := words_f2 HR0.out (by omega)
        obtain ⟨Au, cu, x2, hu⟩ := hrow wr (Below.refl _ _) i hil
        have hu1 : (rels.getD i []).length ≤ 9223372036854775807 := by
          obtain ⟨A', c', e', h1, h2, -⟩ := hu.open_
          omega
        have HN : Hid ((rels.getD i []).length ≤ 40 → ∀ j, j < i + 1 → (rels.getD j []).length ≤ 40) := Lib.hid fun h => all_succ HZ.out h
        clear hrow hu
        generalize (rels.getD i []).length = lu at *
        have hu0 : (0 : Int) ≤ (lu : Int) := Int.natCast_nonneg _
        by_cases h40 : 40 < lu
        · have h40' : (40 : Int) < (lu : Int) := by omega
          clear h40
          go_wp2_with fail
          go_ret
          exact ⟨⟨true, rfl, fun h => by cases h⟩, HB0.out⟩
        · have h40' : ¬ (40 : Int) < (lu : Int) := by omega
          have HN2 := Lib.hid (HN.out (by omega))
          clear h40
          go_wp2_with fail
          go_roundw
          case rel => exact ⟨i + 1, by go_num, by omega, by omega, HN2, trivial⟩
          case measure => simp [intOf]; omega
      · obtain rfl : i = 13 := by omega
        have hgt : (12 : Int) < (rels.length : Int) := by omega
        go_wp2_with fail
        go_ret
        exact ⟨⟨true, rfl, fun h => by cases h⟩, HB0.out⟩
    · obtain rfl : rels.length = i := by omega
      by_cases h12 : 12 < rels.length
      · have hgt : (12 : Int) < (rels.length : Int) := by omega
        clear h12
        go_wp2_with fail
        go_ret
        exact ⟨⟨true, rfl, fun h => by cases h⟩, HB0.out⟩
      · have hgt : ¬ (12 : Int) < (rels.length : Int) := by omega
        have HL : Hid (rels.length ≤ 12) := Lib.hid (by omega)
        clear h12
        go_wp2_with fail
        go_ret
        refine ⟨⟨false, rfl, fun _ => ⟨HL.out, fun j => ?_⟩⟩, HB0.out⟩
        rcases Nat.lt_or_ge j rels.length with h | h
        · exact HZ.out j h
        · rw [List.getD_eq_getElem?_getD, List.getElem?_eq_none h]; simp
/-- what both eliminations answer -/
def EP (x m : Int) (R I : List (List Int)) (w : World) (e : Ending) (w' : World) : Prop :=
  (∃ A c B d, e = .returned (.tuple #[.agg #[.int .i64 m, .slice A R.length c], .slice B I.length d, .int .i64 x]) ∧ Tab w' (.slice A R.length c) R ∧ Tab w' (.slice B I.length d) I) ∧ Below w.heap.size w w'
theorem ep_err {x : Int} {w w' : World} {e : Ending} (h : ElimErr x w e w') : EP x 0 [] [] w e w' := ⟨⟨none, 0, none, 0, h.1, tab_nil, tab_nil⟩, h.2⟩
theorem elim_both (g : Int) (rels : List (List Int)) (rel gen : Int) (hsm : ∀ j, (rels.getD j []).length ≤ 8000000) : ∃ (x m : Int) (R I : List (List Int)), ∀ (W : World) (vr : Value), Tab W vr rels → Calls Tryz.prog 9 #[.agg #[.int .i64 g, vr], .int .i64 rel, .int .i64 gen] W (EP x m R I W) ∧ Calls Tryz.prog 10 #[.agg #[.int .i64 g, vr], .int .i64 rel, .int .i64 gen] W (EP x m R I W) := by
  by_cases he : presE g rels = 0
  · obtain ⟨n, rfl, hg1, hg2, hln, -⟩ := presE_good he
    by_cases hb : rel < 0 ∨ (rels.length : Int) ≤ rel ∨ gen < 1 ∨ (n : Int) < gen
    · exact ⟨2, 0, [], [], fun W vr h => ⟨(elim6_range W vr n rels rel gen h he hb).mono fun _ _ q => ep_err q, (elim10_range W vr n rels rel gen h hsm he hb).mono fun _ _ q => ep_err q⟩⟩
    · obtain ⟨r, rfl⟩ : ∃ r : Nat, rel = r := ⟨rel.toNat, by omega⟩
      obtain ⟨k, rfl⟩ : ∃ k : Nat, gen = k := ⟨gen.toNat, by omega⟩
      have hr : r < rels.length := by omega
      have hk : 1 ≤ k ∧ k ≤ n := by omega
      cases hel : elimE n rels r k with
      | inr x =>
        refine ⟨x, 0, [], [], fun W vr h => ⟨(elim6_any W vr n rels r k h he hr hk).mono fun e w' q => ?_, (elim10_any W vr n rels r k h hsm he hr hk).mono fun e w' q => ?_⟩⟩
        · unfold ElimPost at q
          rw [hel] at q
          exact ep_err q
        · unfold RElimPost at q
          rw [hel] at q
          exact ep_err q
      | inl p =>
        obtain ⟨l, im⟩ := p
        refine ⟨0, (n : Int) - 1, l, im, fun W vr h => ⟨(elim6_any W vr n rels r k h he hr hk).mono fun e w' q => ?_, (elim10_any W vr n rels r k h hsm he hr hk).mono fun e w' q => ?_⟩⟩
        · unfold ElimPost at q
          rw [hel] at q
          obtain ⟨⟨A, c, F, B, d, G, h1, h2, h3⟩, h4⟩ := q
          exact ⟨⟨A, c, B, d, h1, OwnT.tab h2.out, OwnT.tab h3.out⟩, h4⟩
        · unfold RElimPost at q
          rw [hel] at q
          obtain ⟨⟨A, c, B, d, h1, h2, h3⟩, h4⟩ := q
          exact ⟨⟨A, c, B, d, h1, h2.tab, h3.tab⟩, h4⟩
  · exact ⟨presE g rels, 0, [], [], fun W vr h => ⟨(elim6_bad W vr g rels rel gen h he).mono fun _ _ q => ep_err q, (elim10_bad W vr g rels rel gen h hsm he).mono fun _ _ q => ep_err q⟩⟩
theorem ret_true {p : Prop} [Decidable p] (h : p) : Ending.returned (.bool (decide p)) = .returned (.bool true) := by rw [decide_eq_true h]
set_option maxRecDepth 100000 in
set_option maxHeartbeats 4000000 in
theorem eliminates3_any (w : World) (g : Int) (vr : Value) (rels : List (List Int)) (rel gen : Int) (hR : Tab w vr rels) : Calls Tryz.prog 3 #[.agg #[.int .i64 g, vr], .int .i64 rel, .int .i64 gen] w fun e w' => e = .returned (.bool true) ∧ Below w.heap.size w w' := by
  obtain ⟨Ar, cr, rfl⟩ := Tab.form hR
  have hb0 : Below w.heap.size w (w.alloc (.cells #[.int .i64 g, .slice Ar rels.length cr] 24)) := (Below.refl _ _).alloc (Nat.le_refl _) _
  have HP0 := Lib.hid (heap_alloc_new w (.cells #[.int .i64 g, .slice Ar rels.length cr] 24))
  have HB0 := Lib.hid hb0
  have HR0 := Lib.hid (kept_tab.below hR hb0)
  have HV := Lib.hid (vast7_any (w.alloc (.cells #[.int .i64 g, .slice Ar rels.length cr] 24)) g _ rels HR0.out)
  clear hR hb0
  go_enter Tryz.func3, Tryz.ntmps3
  go_wp2_with ((with_reducible refine wpList_sel 13 ?_); refine wpList_val rfl (r_loadAt 24 (.tmp 3) _ _ rfl rfl (load40 HP0.out)) ?_)
  refine HV.out.mono ?_
  rintro e w1 ⟨⟨b, rfl, hno⟩, hb⟩
  have HNO := Lib.hid hno
  clear hno
  have HB1 := Lib.hid (HB0.out.trans (hb.mono HB0.out.size))
  have HP1 := Lib.hid ((hb.block _ (Array.getElem?_eq_some_iff.1 HP0.out).1).trans HP0.out)
  have HR1 := Lib.hid (kept_tab.below HR0.out hb)
  clear hb HV HB0 HP0 HR0
  cases b with
  | true =>
    go_wp2_with fail
    refine (awake12_any _).mono ?_
    rintro e w2 ⟨rfl, hb⟩
    have HB2 := Lib.hid (HB1.out.trans (hb.mono HB1.out.size))
    clear hb
    go_wp2_with fail
    go_ret
    exact ⟨rfl, HB2.out⟩
  | false =>
    obtain ⟨hl1, hl2⟩ := HNO.out rfl
    obtain ⟨x, m, R, I, hel⟩ := elim_both g rels rel gen (fun j => by have := hl2 j; omega)
    have HEL := Lib.hid hel
    have HLN : Hid (lenL rels ≤ 1000000000000) := Lib.hid (by
      have h1 := lenL_le (m := 40) (l := rels) fun z hz => by
        obtain ⟨j, hj, rfl⟩ := List.getElem_of_mem hz
        have := hl2 j
        rwa [List.getD_eq_getElem?_getD, List.getElem?_eq_getElem hj] at this
      have h2 : rels.length * 40 ≤ 12 * 40 := Nat.mul_le_mul_right _ hl1
      omega)
    clear hl1 hl2 hel HNO
    unfold EP at HEL
    go_wp2_with ((with_reducible refine wpList_sel 17 ?_); refine wpList_val rfl (r_loadAt 24 (.tmp 3) _ _ rfl rfl (load40 HP1.out)) ?_)
    refine (HEL.out w1 _ HR1.out).1.mono ?_
    rintro e w2 ⟨⟨A2, c2, B2, d2, rfl, ht, hi⟩, hb⟩
    obtain ⟨w3, hw3⟩ : ∃ w3, w3 = w2.alloc (.cells #[.int .i64 m, .slice A2 R.length c2] 24) := ⟨_, rfl⟩
    have hb3 : Below w2.heap.size w2 w3 := by rw [hw3]; exact (Below.refl _ _).alloc (Nat.le_refl _) _
    obtain ⟨q1, hq1⟩ : ∃ q1, q1 = w2.heap.size := ⟨_, rfl⟩
    have HX3 : Hid (w3.heap[q1]? = some (.cells #[.int .i64 m, .slice A2 R.length c2] 24 (0, 0))) := Lib.hid (by rw [hw3, hq1]; exact heap_alloc_new w2 _)
    have hb13 := hb.trans (hb3.mono hb.size)
    have HB3 := Lib.hid (HB1.out.trans (hb13.mono HB1.out.size))
    have HP3 := Lib.hid ((hb13.block _ (Array.getElem?_eq_some_iff.1 HP1.out).1).trans HP1.out)
    have HR3 := Lib.hid (kept_tab.below HR1.out hb13)
    have HT3 := Lib.hid (kept_tab.below ht hb3)
    have HI3 := Lib.hid (kept_tab.below hi hb3)
    have HW3 := Lib.hid hw3
    have HQ1 := Lib.hid hq1
    clear ht hi hb hb3 hb13 hw3 hq1 HB1 HP1 HR1
    go_wp2_with ((with_reducible refine wpList_sel 25 ?_); rw [← HW3.out, ← HQ1.out]; refine wpList_val rfl (r_loadAt 24 (.tmp 3) _ _ rfl rfl (load40 HP3.out)) ?_)
    refine (HEL.out w3 _ HR3.out).2.mono ?_
    rintro e w4 ⟨⟨A4, c4, B4, d4, rfl, ht, hi⟩, hb⟩
    obtain ⟨w5, hw5⟩ : ∃ w5, w5 = w4.alloc (.cells #[.int .i64 m, .slice A4 R.length c4] 24) := ⟨_, rfl⟩
    have hb5 : Below w4.heap.size w4 w5 := by rw [hw5]; exact (Below.refl _ _).alloc (Nat.le_refl _) _
    obtain ⟨q2, hq2⟩ : ∃ q2, q2 = w4.heap.size := ⟨_, rfl⟩
    have HX5 : Hid (w5.heap[q2]? = some (.cells #[.int .i64 m, .slice A4 R.length c4] 24 (0, 0))) := Lib.hid (by rw [hw5, hq2]; exact heap_alloc_new w4 _)
    have hb35 := hb.trans (hb5.mono hb.size)
    have HB5 := Lib.hid (HB3.out.trans (hb35.mono HB3.out.size))
    have HP5 := Lib.hid ((hb35.block _ (Array.getElem?_eq_some_iff.1 HP3.out).1).trans HP3.out)
    have HX35 := Lib.hid ((hb35.block _ (Array.getElem?_eq_some_iff.1 HX3.out).1).trans HX3.out)
    have HR5 := Lib.hid (kept_tab.below HR3.out hb35)
    have HT35 := Lib.hid (kept_tab.below HT3.out hb35)
    have HI35 := Lib.hid (kept_tab.below HI3.out hb35)
    have HT5 := Lib.hid (kept_tab.below ht hb5)
    have HI5 := Lib.hid (kept_tab.below hi hb5)
    have HC11 : Hid (∀ W, Below w5.heap.size w5 W → Calls Tryz.prog 11 #[.agg #[.int .i64 g, .slice Ar rels.length cr]] W fun e w' => e = .returned (.int .i64 (lenL rels : Int)) ∧ Below W.heap.size W w') := Lib.hid fun W h => length5_any W _ g rels (kept_tab.below HR5.out h) HLN.out
    have HC12 : Hid (∀ W, Below w5.heap.size w5 W → Calls Tryz.prog 12 #[.agg #[.int .i64 g, .slice Ar rels.length cr]] W fun e w' => e = .returned (.int .i64 (lenL rels : Int)) ∧ Below W.heap.size W w') := Lib.hid fun W h => length12_any W _ g rels (kept_tab.below HR5.out h) HLN.out
    have HC13 : Hid (∀ W, Below w5.heap.size w5 W → Calls Tryz.prog 13 #[.agg #[.int .i64 m, .slice A2 R.length c2], .agg #[.int .i64 m, .slice A4 R.length c4]] W fun e w' => e = .returned (.bool true) ∧ Below W.heap.size W w') := Lib.hid fun W h => (same26_any W _ _ m m R R (kept_tab.below HT35.out h) (kept_tab.below HT5.out h)).mono fun e w' ⟨h1, h2⟩ => ⟨h1.trans (ret_bool (by simp)), h2⟩
    have HC14 : Hid (∀ W, Below w5.heap.size w5 W → Calls Tryz.prog 14 #[.slice B2 I.length d2, .slice B4 I.length d4] W fun e w' => e = .returned (.bool true) ∧ Below W.heap.size W w') := Lib.hid fun W h => (equal8_any W _ _ I I (kept_tab.below HI35.out h) (kept_tab.below HI5.out h)).mono fun e w' ⟨h1, h2⟩ => ⟨h1.trans (ret_true rfl), h2⟩
    have HC8 : Hid (∀ W, Below w5.heap.size w5 W → Calls Tryz.prog 8 #[] W fun e w' => e = .returned (.bool true) ∧ Below W.heap.size W w') := Lib.hid fun W _ => awake12_any W
    clear ht hi hb hb5 hb35 HB3 HP3 HR3 HT3 HI3 HX3 HEL HLN
    go_upto_region 5 with fail
    rw [← hw5, ← hq2]
    clear hw5 hq2
    refine (wpIn_wide (n := 3)).1 ?_
    refine wpIn_region_g (by kernel_rfl) (fun i => 32 + i) 23 (tailed1_of (by kernel_rfl)) (fun _ w' => Below w5.heap.size w5 w') (fun q v _ => v = ([.agg #[.int .i64 g, .slice Ar rels.length cr], .int .i64 (lenL rels : Int), .agg #[.int .i64 g, .slice Ar rels.length cr], .int .i64 (lenL rels : Int), .bool true, .bool true, .int .i64 x, .int .i64 x, .bool true, .bool true, .bool true, .agg #[.int .i64 m, .slice A2 R.length c2], .agg #[.int .i64 m, .slice A4 R.length c4], .bool true, .bool true, .bool true, .slice B2 I.length d2, .slice B4 I.length d4, .bool true, .bool true, .bool true, .bool true, .bool true] : List Value).getD q undef) (fun _ w w' => Below w.heap.size w w') (fun i j _ _ h => by simpa using h) (fun i j v w w' _ _ _ _ h => h) (fun i hi => by show 32 + i < 55; omega) (Below.refl _ _).drew ?_ ?_
    · intro ls q o a w2 hq ho hS hls hsame hpre
      have hsz : a.tmps.size = 55 := hsame.size
      have hcases : q = 0 ∨ q = 1 ∨ q = 2 ∨ q = 3 ∨ q = 4 ∨ q = 5 ∨ q = 6 ∨ q = 7 ∨ q = 8 ∨ q = 9 ∨ q = 10 ∨ q = 11 ∨ q = 12 ∨ q = 13 ∨ q = 14 ∨ q = 15 ∨ q = 16 ∨ q = 17 ∨ q = 18 ∨ q = 19 ∨ q = 20 ∨ q = 21 ∨ q = 22 := by omega
      rcases hcases with rfl | rfl | rfl | rfl | rfl | rfl | rfl | rfl | rfl | rfl | rfl | rfl | rfl | rfl | rfl | rfl | rfl | rfl | rfl | rfl | rfl | rfl | rfl
      · obtain rfl := Option.some.inj ho; exact wpOpIn_of rfl rfl (wpW_val (r_loadAt 24 (.tmp 3) _ _ rfl (hsame.out 3 (fun i _ h => by omega)) (load40 ((hS.block _ (Array.getElem?_eq_some_iff.1 HP5.out).1).trans HP5.out))) ⟨_, rfl, hS, Below.refl _ _, rfl⟩)
      · obtain rfl := Option.some.inj ho; exact wpOpIn_of rfl rfl (wpW_call (R := fun v w' => v = .int .i64 (lenL rels : Int) ∧ Below w2.heap.size w2 w') (r_call1 (.tmp 32) _ _ rfl (hpre ⟨0, .data⟩ (by simp) rfl) call11) ((HC11.out w2 hS).mono fun e w' ⟨he, hb⟩ => ⟨_, he, rfl, hb⟩) (fun v w'' h => ⟨v, rfl, hS.trans (h.2.mono hS.size), h.2, h.1⟩))
      · obtain rfl := Option.some.inj ho; exact wpOpIn_of rfl rfl (wpW_val (r_loadAt 24 (.tmp 3) _ _ rfl (hsame.out 3 (fun i _ h => by omega)) (load40 ((hS.block _ (Array.getElem?_eq_some_iff.1 HP5.out).1).trans HP5.out))) ⟨_, rfl, hS, Below.refl _ _, rfl⟩)
      · obtain rfl := Option.some.inj ho; exact wpOpIn_of rfl rfl (wpW_call (R := fun v w' => v = .int .i64 (lenL rels : Int) ∧ Below w2.heap.size w2 w') (r_call1 (.tmp 34) _ _ rfl (hpre ⟨2, .data⟩ (by simp) rfl) call12) ((HC12.out w2 hS).mono fun e w' ⟨he, hb⟩ => ⟨_, he, rfl, hb⟩) (fun v w'' h => ⟨v, rfl, hS.trans (h.2.mono hS.size), h.2, h.1⟩))
      · obtain rfl := Option.some.inj ho; exact wpOpIn_of rfl rfl (wpW_val (r_eqi 3 (.tmp 33) (.tmp 35) _ rfl (hpre ⟨1, .data⟩ (by simp) rfl) (hpre ⟨3, .data⟩ (by simp) rfl)) ⟨_, rfl, hS, Below.refl _ _, rfl⟩)
      · obtain rfl := Option.some.inj ho; exact wpOpIn_of rfl rfl (wpW_val (r_move (.tmp 36) rfl (hpre ⟨4, .data⟩ (by simp) rfl)) ⟨_, rfl, hS, Below.refl _ _, rfl⟩)
      · obtain rfl := Option.some.inj ho; exact wpOpIn_yes rfl rfl (yielded_of (g := 5) (t := 37) (b := true) rfl rfl (by omega) (hpre ⟨5, .guard⟩ (by simp) rfl)) (wpW_val (r_move (.tmp 9) rfl (hsame.out 9 (fun i _ h => by omega))) ⟨_, rfl, hS, Below.refl _ _, rfl⟩)
      · obtain rfl := Option.some.inj ho; exact wpOpIn_yes rfl rfl (yielded_of (g := 5) (t := 37) (b := true) rfl rfl (by omega) (hpre ⟨5, .guard⟩ (by simp) rfl)) (wpW_val (r_move (.tmp 12) rfl (hsame.out 12 (fun i _ h => by omega))) ⟨_, rfl, hS, Below.refl _ _, rfl⟩)
      · obtain rfl := Option.some.inj ho; exact wpOpIn_yes rfl rfl (yielded_of (g := 5) (t := 37) (b := true) rfl rfl (by omega) (hpre ⟨5, .guard⟩ (by simp) rfl)) (wpW_val (r_eqi 27 (.tmp 38) (.tmp 39) _ rfl (hpre ⟨6, .data⟩ (by simp) rfl) (hpre ⟨7, .data⟩ (by simp) rfl)) ⟨_, rfl, hS, Below.refl _ _, rfl⟩)
      · obtain rfl := Option.some.inj ho; exact wpOpIn_of rfl rfl (wpW_val (r_pick (.tmp 37) (.tmp 40) (.const (.bool false)) true rfl (hpre ⟨5, .data⟩ (by simp) rfl) (by exact (hpre ⟨8, .data⟩ (by simp) rfl))) ⟨_, rfl, hS, Below.refl _ _, rfl⟩)
      · obtain rfl := Option.some.inj ho; exact wpOpIn_of rfl rfl (wpW_val (r_move (.tmp 41) rfl (hpre ⟨9, .data⟩ (by simp) rfl)) ⟨_, rfl, hS, Below.refl _ _, rfl⟩)
      · obtain rfl := Option.some.inj ho; exact wpOpIn_yes rfl rfl (yielded_of (g := 10) (t := 42) (b := true) rfl rfl (by omega) (hpre ⟨10, .guard⟩ (by simp) rfl)) (wpW_val (r_loadAt 24 (.tmp 7) _ _ rfl (hsame.out 7 (fun i _ h => by omega)) (load40 ((hS.block _ (Array.getElem?_eq_some_iff.1 HX35.out).1).trans HX35.out))) ⟨_, rfl, hS, Below.refl _ _, rfl⟩)
      · obtain rfl := Option.some.inj ho; exact wpOpIn_yes rfl rfl (yielded_of (g := 10) (t := 42) (b := true) rfl rfl (by omega) (hpre ⟨10, .guard⟩ (by simp) rfl)) (wpW_val (r_loadAt 24 (.tmp 10) _ _ rfl (hsame.out 10 (fun i _ h => by omega)) (load40 ((hS.block _ (Array.getElem?_eq_some_iff.1 HX5.out).1).trans HX5.out))) ⟨_, rfl, hS, Below.refl _ _, rfl⟩)
      · obtain rfl := Option.some.inj ho; exact wpOpIn_yes rfl rfl (yielded_of (g := 10) (t := 42) (b := true) rfl rfl (by omega) (hpre ⟨10, .guard⟩ (by simp) rfl)) (wpW_call (R := fun v w' => v = .bool true ∧ Below w2.heap.size w2 w') (r_call2 (.tmp 43) (.tmp 44) _ _ _ rfl (hpre ⟨11, .data⟩ (by simp) rfl) (hpre ⟨12, .data⟩ (by simp) rfl) call13) ((HC13.out w2 hS).mono fun e w' ⟨he, hb⟩ => ⟨_, he, rfl, hb⟩) (fun v w'' h => ⟨v, rfl, hS.trans (h.2.mono hS.size), h.2, h.1⟩))
      · obtain rfl := Option.some.inj ho; exact wpOpIn_of rfl rfl (wpW_val (r_pick (.tmp 42) (.tmp 45) (.const (.bool false)) true rfl (hpre ⟨10, .data⟩ (by simp) rfl) (by exact (hpre ⟨13, .data⟩ (by simp) rfl))) ⟨_, rfl, hS, Below.refl _ _, rfl⟩)
      · obtain rfl := Option.some.inj ho; exact wpOpIn_of rfl rfl (wpW_val (r_move (.tmp 46) rfl (hpre ⟨14, .data⟩ (by simp) rfl)) ⟨_, rfl, hS, Below.refl _ _, rfl⟩)
      · obtain rfl := Option.some.inj ho; exact wpOpIn_yes rfl rfl (yielded_of (g := 15) (t := 47) (b := true) rfl rfl (by omega) (hpre ⟨15, .guard⟩ (by simp) rfl)) (wpW_val (r_move (.tmp 8) rfl (hsame.out 8 (fun i _ h => by omega))) ⟨_, rfl, hS, Below.refl _ _, rfl⟩)
      · obtain rfl := Option.some.inj ho; exact wpOpIn_yes rfl rfl (yielded_of (g := 15) (t := 47) (b := true) rfl rfl (by omega) (hpre ⟨15, .guard⟩ (by simp) rfl)) (wpW_val (r_move (.tmp 11) rfl (hsame.out 11 (fun i _ h => by omega))) ⟨_, rfl, hS, Below.refl _ _, rfl⟩)
      · obtain rfl := Option.some.inj ho; exact wpOpIn_yes rfl rfl (yielded_of (g := 15) (t := 47) (b := true) rfl rfl (by omega) (hpre ⟨15, .guard⟩ (by simp) rfl)) (wpW_call (R := fun v w' => v = .bool true ∧ Below w2.heap.size w2 w') (r_call2 (.tmp 48) (.tmp 49) _ _ _ rfl (hpre ⟨16, .data⟩ (by simp) rfl) (hpre ⟨17, .data⟩ (by simp) rfl) call14) ((HC14.out w2 hS).mono fun e w' ⟨he, hb⟩ => ⟨_, he, rfl, hb⟩) (fun v w'' h => ⟨v, rfl, hS.trans (h.2.mono hS.size), h.2, h.1⟩))
      · obtain rfl := Option.some.inj ho; exact wpOpIn_of rfl rfl (wpW_val (r_pick (.tmp 47) (.tmp 50) (.const (.bool false)) true rfl (hpre ⟨15, .data⟩ (by simp) rfl) (by exact (hpre ⟨18, .data⟩ (by simp) rfl))) ⟨_, rfl, hS, Below.refl _ _, rfl⟩)
      · obtain rfl := Option.some.inj ho; exact wpOpIn_of rfl rfl (wpW_val (r_move (.tmp 51) rfl (hpre ⟨19, .data⟩ (by simp) rfl)) ⟨_, rfl, hS, Below.refl _ _, rfl⟩)
      · obtain rfl := Option.some.inj ho; exact wpOpIn_yes rfl rfl (yielded_of (g := 20) (t := 52) (b := true) rfl rfl (by omega) (hpre ⟨20, .guard⟩ (by simp) rfl)) (wpW_call (R := fun v w' => v = .bool true ∧ Below w2.heap.size w2 w') (r_call0   _ rfl  call8) ((HC8.out w2 hS).mono fun e w' ⟨he, hb⟩ => ⟨_, he, rfl, hb⟩) (fun v w'' h => ⟨v, rfl, hS.trans (h.2.mono hS.size), h.2, h.1⟩))
      · obtain rfl := Option.some.inj ho; exact wpOpIn_of rfl rfl (wpW_val (r_pick (.tmp 52) (.tmp 53) (.const (.bool false)) true rfl (hpre ⟨20, .data⟩ (by simp) rfl) (by exact (hpre ⟨21, .data⟩ (by simp) rfl))) ⟨_, rfl, hS, Below.refl _ _, rfl⟩)
    · intro ls a w2 hS hlst hsame hsl
      have hlast : a.tmps.getD 54 undef = .bool true := hsl 22 (by omega)
      obtain ⟨vs, hvs, hfr⟩ := hsame.frameV 55 rfl
      refine wpOpIn_of (o := ⟨some 6, .assign (.tmp 54), 4, "law.go:73", _, none⟩) rfl rfl (wpW_val (r_assign (.tmp 54) rfl hlast) ?_)
      have HBL := Lib.hid (HB5.out.trans (hS.mono HB5.out.size))
      clear hsl hsame hlast hS hlst hvs
      subst hfr
      dsimp only
      simp only [Act.put, List.range, List.range.loop, List.map_cons, List.map_nil, List.any_cons, List.any_nil, Nat.reduceAdd, Nat.reduceBEq, Bool.or_false, Bool.or_true, Bool.false_eq_true, if_true, if_false, List.getD_cons_zero, List.getD_cons_succ, List.setIfInBounds_toArray, List.set_cons_succ, List.set_cons_zero]
      go_wp2_with fail
      go_ret
      exact ⟨rfl, HBL.out⟩
end Go.Proofs
namespace Go.Proofs
open Go.RowKit Go.ChangeShapes Go.WideShapes Go.ChangeAt Go.Deep
section
variable {H : Type} {enc : TypeId × Value → H} {W : World}
theorem spot_none {a : Addr} {v : Value} (h : W.cell? (a.add 0) = some v) : a = ⟨a.block, a.off, none⟩ := by
  obtain ⟨b, o, s⟩ := a
  cases s with
  | none => rfl
  | some q =>
    exfalso
    have e : ({ block := b, off := o, spot := some q } : Addr).add 0 = { block := b, off := o, spot := some q } := by unfold Addr.add; rw [if_pos rfl]
    rw [e] at h
    unfold World.cell? at h
    simp only [Option.isSome_some, if_true] at h
    split at h <;> cases h
theorem wf_fits {x : Int} (h : (Lit.int .i64 x).wf = true) : -9223372036854775808 ≤ x ∧ x ≤ 9223372036854775807 := by
  simpa [Lit.wf, IntKind.min, IntKind.max, IntKind.signed, IntKind.bits] using h
theorem lat_of_trod {α : Type} {R : World → Value → α → Prop} {d : α} {t e : TypeId} {base fuel : Nat} {spare : Nat → Bool} {held : Bool} {v : Value} {x : DataW H × List MemPlace} (ht : Tryz.prog.underlying t = some (.slice e)) (hc : Tryz.prog.cellsOf e = 1)
    (hR : ∀ n u y, DataW.trod enc Tryz.prog W base spare held n e [u] = some y → ∃ z, R W u z) (h : DataW.trod enc Tryz.prog W base spare held fuel t [v] = some x) : ∃ xs, LAt R d W v xs := by
  rcases open_slice1 ht hc h with ⟨hv, -⟩ | ⟨a, len, cap, m, n, V, D, Pl, hv, -, hl, hm, hmm, -, hx⟩
  · obtain rfl : v = .slice none 0 0 := by simpa using hv
    exact ⟨[], [], ⟨none, 0, 0, rfl, rfl, Nat.le_refl _, by simp [maxLen], fun h => absurd h (by simp)⟩, rfl, fun i hi => absurd hi (by simp)⟩
  · obtain rfl : v = .slice (some a) len cap := by simpa using hv
    have hlm : len ≤ m := by rw [hmm]; split <;> omega
    have hz : ∀ i, i < len → ∃ z, R W (V i) z := fun i hi => hR n (V i) _ (hx i (by omega)).2
    have hf : ∃ f : Nat → α, ∀ i, i < len → R W (V i) (f i) := by
      have hz' : ∀ i, ∃ z, i < len → R W (V i) z := fun i => by
        by_cases hi : i < len
        · obtain ⟨z, hz⟩ := hz i hi; exact ⟨z, fun _ => hz⟩
        · exact ⟨d, fun h => absurd h hi⟩
      exact ⟨fun i => Classical.choose (hz' i), fun i => Classical.choose_spec (hz' i)⟩
    obtain ⟨f, hf⟩ := hf
    refine ⟨(List.range len).map f, (List.range len).map V, ⟨_, len, cap, rfl, by simp, hl, hm, fun h0 => ?_⟩, by simp, fun i hi => ?_⟩
    · have hsp := spot_none (hx 0 (by omega)).1
      refine ⟨a.block, a.off, by rw [← hsp], fun j u hu => ?_⟩
      have hj : j < len := by have := (List.getElem?_eq_some_iff.1 hu).1; simpa using this
      have := (hx j (by omega)).1
      rw [hsp, Addr.add_lit] at this
      rw [this, ← hu]
      simp [List.getElem?_range hj]
    · have hi' : i < len := by simpa using hi
      refine ⟨V i, by simp [List.getElem?_range hi'], ?_⟩
      have : ((List.range len).map f).getD i d = f i := by simp [List.getD_eq_getElem?_getD, List.getElem?_range hi']
      rw [this]
      exact hf i hi'
theorem intsT_of_trod {t : TypeId} (ht : Tryz.prog.underlying t = some (.slice 3)) {base fuel : Nat} {spare : Nat → Bool} {held : Bool} {v : Value} {x : DataW H × List MemPlace} (h : DataW.trod enc Tryz.prog W base spare held fuel t [v] = some x) : ∃ xs, IntsAt W v xs := by
  obtain ⟨xs, vs, hS, hl, he⟩ := lat_of_trod (R := fun _ u z => u = .int .i64 z ∧ (Lit.int .i64 z).wf = true) (d := 0) ht (by kernel_rfl) (fun n u y hy => by
    obtain ⟨m, hu, -, hw⟩ := DataW.trod_int Tryz.underlying3 hy
    exact ⟨m, by simpa using hu, hw⟩) h
  have hvs : vs = ints xs := by
    apply List.ext_getElem (by simpa [ints] using hl)
    intro i h1 h2
    obtain ⟨u, hu, rfl, -⟩ := he i (by omega)
    have hi : i < xs.length := by omega
    rw [List.getElem?_eq_getElem h1] at hu
    rw [Option.some.inj hu]
    simp [ints, List.getD_eq_getElem?_getD, hi]
  refine ⟨xs, hvs ▸ hS, fun z hz => ?_⟩
  obtain ⟨i, hi, rfl⟩ := List.getElem_of_mem hz
  obtain ⟨u, -, -, hw⟩ := he i hi
  have e : xs.getD i 0 = xs[i] := by simp [List.getD_eq_getElem?_getD, hi]
  rw [e] at hw
  exact wf_fits hw
theorem word_of_trod {base fuel : Nat} {spare : Nat → Bool} {held : Bool} {v : Value} {x : DataW H × List MemPlace} (h : DataW.trod enc Tryz.prog W base spare held fuel 36 [v] = some x) : ∃ xs, IntsAt W v xs := intsT_of_trod Tryz.underlying36 h
theorem words_of_trod {base fuel : Nat} {spare : Nat → Bool} {held : Bool} {v : Value} {x : DataW H × List MemPlace} (h : DataW.trod enc Tryz.prog W base spare held fuel 22 [v] = some x) : ∃ L, Tab W v L :=
  lat_of_trod Tryz.underlying22 (by kernel_rfl) (fun _ _ _ hy => word_of_trod hy) h
end
end Go.Proofs
namespace Go.Proofs
open Go.RowKit Go.ChangeShapes Go.WideShapes Go.ChangeAt Go.Deep
section
variable {H : Type} {enc : TypeId × Value → H} {W : World}
theorem cells40p : Tryz.prog.cellsOf 24 = 2 := by kernel_rfl
theorem cells3p : Tryz.prog.cellsOf 3 = 1 := by kernel_rfl
theorem cells31p : Tryz.prog.cellsOf 22 = 1 := by kernel_rfl
set_option maxRecDepth 100000 in
theorem pres_of_trod {base : Nat} {spare : Nat → Bool} {held : Bool} {v : Value} {d : DataW H} {ps : List MemPlace} (h : DataW.Trod enc Tryz.prog W base spare held 24 v d ps) : ∃ g a1 P, v = .agg #[.int .i64 g, a1] ∧ Tab W a1 P := by
  obtain ⟨fuel, hf⟩ := h
  obtain ⟨y0, y1, n, -, hlen, h0, h1⟩ := trod_struct2 Tryz.underlying24 hf
  rw [cells40p] at hlen
  obtain ⟨cs, rfl⟩ : ∃ cs, v = .agg cs := by
    cases v <;> simp [Value.cells] at hlen
    exact ⟨_, rfl⟩
  have hcs : cs.toList.length = 2 := hlen
  obtain ⟨l⟩ := cs
  match l, hcs with
  | [a0, a1], _ =>
    simp [Value.cells, cells3p, cells31p] at h0 h1
    obtain ⟨m, hu, -, hw⟩ := DataW.trod_int Tryz.underlying3 h0
    obtain ⟨L, hL⟩ := words_of_trod h1
    have e : a0 = .int .i64 m := by simpa using hu
    subst e
    exact ⟨m, a1, L, rfl, hL⟩
end
end Go.Proofs
