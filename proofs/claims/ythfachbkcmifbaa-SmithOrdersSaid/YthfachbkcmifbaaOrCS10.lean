/- smith.Abelian at relators that pass; Minors by the bits of two numbers; their greatest common divisor; minors: what lies in memory; Matrices that are written: entries and rows; SmithMinors, plainly, and what it has in memory; SmithOrders, plainly; SmithOrders, plainly: the order of a group; Lists of words that grow at either end; A list of words that grows at its head. -/
import Derived.Test.YthfachbkcmifbaaOrCS9
import Derived.Test.YthfachbkcmifbaaOrCS3
namespace Go.Proofs
open Go.RowKit Go.Shelf Go.Proofs.Sm
theorem sumsE_fits {n : Nat} {xs : List Int} (h : xs.length ≤ 4000) : Fits (sumsE n xs) := fun z hz => by
  obtain ⟨k, -, rfl⟩ := List.mem_map.1 hz
  have := sumAt_bd xs k
  omega
set_option maxRecDepth 100000 in
set_option maxHeartbeats 2000000 in
theorem abelian26_ok (w : World) (v : Value) (R : List (List Int)) (n : Nat) (h : Tab w v R) (hn : 1 ≤ n) (hn2 : n ≤ 16) (hR : R.length ≤ 100) (hk : ∀ x ∈ R, WordOk n x) {t : List Int} {free er : Int} (hE : GrE n (R.map (sumsE n)) t free er) :
    Calls Try.prog 26 #[.agg #[.int .i64 (n : Int), v]] w (GroupPost t free er w) := by
  obtain ⟨A, c, rfl, h1, h2, h3⟩ := LAt.open_ h
  have HC := Lib.hid h3
  have HK : Hid (∀ k, k < R.length → WordOk n (R.getD k [])) := Lib.hid fun k hk' => hk _ (by rw [List.getD_eq_getElem?_getD, List.getElem?_eq_getElem hk']; exact List.getElem_mem hk')
  have HF : Hid (∀ y ∈ R.map (sumsE n), Fits y) := Lib.hid fun y hy => by
    obtain ⟨x, hx, rfl⟩ := List.mem_map.1 hy
    exact sumsE_fits (hk x hx).1
  have HE := Lib.hid hE
  obtain ⟨L, hL⟩ : ∃ L, L = R.length := ⟨_, rfl⟩
  rw [← hL] at hR h1 HC HK ⊢
  have HL := Lib.hid hL
  have hLi : (L : Int) ≤ 100 := by omega
  have hni : (1 : Int) ≤ (n : Int) := by omega
  have hni2 : (n : Int) ≤ 16 := by omega
  have hd1 : decide ((n : Int) < 1) = false := decide_eq_false (by omega)
  have hd2 : decide ((16 : Int) < (n : Int)) = false := decide_eq_false (by omega)
  have hd3 : decide ((100 : Int) < (L : Int)) = false := decide_eq_false (by omega)
  clear h h3 hk hE hL
  go_enter Try.func26, Try.ntmps26
  go_wp2_with fail
  have hbx : (w.alloc (.cells #[.int .i64 (n : Int), .slice A L c] 49)).cell? ⟨w.heap.size, 0, none⟩ = some (.int .i64 (n : Int)) := by rw [cell_of_row _ _ _ _ _ _ (heap_alloc_new w _)]; rfl
  have hb0 : Below w.heap.size w (w.alloc (.cells #[.int .i64 (n : Int), .slice A L c] 49)) := (Below.refl _ _).alloc (Nat.le_refl _) _
  have HBX := Lib.hid hbx
  have HB0 := Lib.hid hb0
  clear hbx hb0
  generalize hb : w.heap.size = b at *
  generalize w.alloc (.cells #[.int .i64 (n : Int), .slice A L c] 49) = w0 at *
  go_loopw [5, 25] (fun zv z wr => ∃ (k : Nat) (A' : Option Addr) (c' : Nat), k ≤ L ∧ z = .int .i64 k ∧ zv = .slice A' k c' ∧ Hid ((∃ bl cs, MatM w0.heap.size wr (.slice A' k c') bl cs ((R.take k).map (sumsE n))) ∧ Below w0.heap.size w0 wr)) (fun _ z _ => L - (intOf z).toNat)
  case atStart => exact ⟨0, none, 0, by omega, rfl, rfl, Lib.hid ⟨⟨_, _, MatM.nil _ _⟩, Below.refl _ _⟩⟩
  case round =>
    obtain ⟨k, A', c', hk, rfl, rfl, HQ⟩ := hrel
    have hk0 : (0 : Int) ≤ (k : Int) := Int.natCast_nonneg _
    have hbx := (HQ.out.2.cell (p := ⟨b, 0, none⟩) (World.block_lt_of_cell? w0 _ HBX.out)).trans HBX.out
    have hbw : Below b w wr := HB0.out.trans (HQ.out.2.mono (by rw [← hb]; rw [← hb] at HB0; exact HB0.out.size))
    by_cases hkl : k < L
    · have hkl' : (k : Int) < (L : Int) := by omega
      obtain ⟨bo, oo, rfl, hcells⟩ := HC.out (by omega)
      obtain ⟨u, hu, hI⟩ := hcells k hkl
      obtain ⟨A1, c1, rfl, -, -, -⟩ := id hI.open_
      have hu' := (hbw.cell (p := ⟨bo, oo + k, none⟩) (by rw [← hb]; exact World.block_lt_of_cell? w _ hu)).trans hu
      have HS := Lib.hid (sums44_ok wr _ _ n (kept_ints w wr _ _ (fun p hp => hbw.block p (by rw [← hb]; exact hp)) hI) hn hn2 (HK.out k hkl))
      obtain ⟨⟨bl, cs, hM⟩, hB⟩ := HQ.out
      have hlt : (R.take k).length = k := by rw [List.length_take]; have := HL.out; omega
      have hts : (R.take (k + 1)).map (sumsE n) = (R.take k).map (sumsE n) ++ [sumsE n (R.getD k [])] := by rw [← take_getD R (by rw [← HL.out]; exact hkl), List.map_append]; rfl
      have HPUSH : Hid (∀ W g, Below wr.heap.size wr W → XsAt W g (sumsE n (R.getD k [])) → wr.heap.size ≤ g → ∃ A2 c2 w2, (Builtin.append_ #[22, 22] 22 #[.slice A' k c', .slice (some ⟨W.heap.size, 0, none⟩) 1 1]).run Try.prog (W.alloc (.cells #[.slice (some ⟨g, 0, none⟩) n n] 25)) = .ok (.slice A2 (k + 1) c2) w2 ∧ Hid ((∃ bl cs, MatM w0.heap.size w2 (.slice A2 (k + 1) c2) bl cs ((R.take (k + 1)).map (sumsE n))) ∧ Below w0.heap.size w0 w2)) := Lib.hid fun W g hW hX hg => by
        have hMk := hM.keep hW
        obtain ⟨A2, c2, w2, p1, ⟨bl2, cs2, p2⟩, p3⟩ := hMk.push (g := g) (c := n) (Nat.le_trans hB.size hW.size) hX (Nat.le_trans hB.size hg) (by rw [sumsE_length]; exact Nat.le_refl _) (by omega) (fun i hi e => by have := hM.lt.1 i hi; omega) (by rw [List.length_map, hlt]; omega)
        rw [List.length_map, hlt, sumsE_length] at p1
        rw [List.length_map, hlt, ← hts] at p2
        exact ⟨A2, c2, w2, p1, Lib.hid ⟨⟨bl2, cs2, p2⟩, (hB.trans (hW.mono hB.size)).grown p3 (Nat.le_trans hB.size hW.size) fun r hr => (owns_block hMk.out r hr).1⟩⟩
      clear hcells hu hI hM hB hlt hts hbw
      generalize hrk : (R.getD k []).length = rl at *
      go_wp2_with (first
        | (go_at_call 44; (refine HS.out.mono ?_); rintro e w5 ⟨g, rfl, hX, hg, hb5⟩; obtain ⟨A2, c2, w6, p1, HN⟩ := HPUSH.out w5 g hb5 hX hg; have HP1 := Lib.hid p1; clear p1 hX hg hb5)
        | ((with_reducible refine wpList_sel 42 ?_); refine wpList_val rfl (r_app (.tmp 39) (.tmp 41) 22 rfl rfl rfl HP1.out) ?_))
      go_roundw
      case rel => exact ⟨k + 1, A2, c2, by omega, by go_num, rfl, HN⟩
      case measure => simp [intOf]; omega
    · obtain rfl : k = L := by omega
      obtain ⟨⟨bl, cs, hM⟩, hB⟩ := HQ.out
      have htk : R.take k = R := by rw [HL.out, List.take_length]
      rw [htk] at hM
      have hl : (R.map (sumsE n)).length = k := by rw [List.length_map, HL.out]
      have htab : Tab wr (.slice A' k c') (R.map (sumsE n)) := hM.tab HF.out
      have HG := Lib.hid (group13_any wr n _ _ htab HE.out)
      have HB := Lib.hid hbw
      clear hM hB htk hl htab hbw
      go_wp2_with (go_at_call 13; (refine HG.out.mono ?_); rintro e w5 ⟨⟨vt, rfl, ht⟩, hb5⟩; have HT := Lib.hid ht; have HB5 := Lib.hid hb5; clear ht hb5)
      go_ret3
      have hz := HB.out.size
      rw [hb] at hz
      exact ⟨⟨_, rfl, HT.out⟩, by rw [hb]; exact HB.out.trans (HB5.out.mono hz)⟩
end Go.Proofs
namespace Go.Proofs.Sm
def bitOf (R i : Nat) : Bool := R / 2 ^ i % 2 == 1
def sel (R r : Nat) : List Nat := (List.range r).filter (bitOf R)
theorem sel_succ (R r : Nat) : sel R (r + 1) = sel R r ++ if bitOf R r = true then [r] else [] := by
  unfold sel
  rw [List.range_succ, List.filter_append]
  congr 1
  by_cases h : bitOf R r = true
  · rw [if_pos h]; simp [h]
  · rw [if_neg h]; simp [h]
theorem bit_add {R r i : Nat} (h : i < r) : bitOf (R + 2 ^ r) i = bitOf R i := by
  unfold bitOf
  have e : 2 ^ r = 2 ^ i * (2 * 2 ^ (r - i - 1)) := by
    rw [← Nat.mul_assoc, ← Nat.pow_succ, ← Nat.pow_add]; congr 1; omega
  rw [e, Nat.add_mul_div_left _ _ (Nat.two_pow_pos i), Nat.add_mul_mod_self_left]
theorem bit_top {R r : Nat} (h : R < 2 ^ r) : bitOf (R + 2 ^ r) r = true := by
  unfold bitOf
  have : (R + 2 ^ r) / 2 ^ r = 1 := by rw [Nat.add_div_right _ (Nat.two_pow_pos r), Nat.div_eq_of_lt h]
  rw [this]; rfl
theorem bit_none {R r : Nat} (h : R < 2 ^ r) : bitOf R r = false := by
  unfold bitOf
  rw [Nat.div_eq_of_lt h]; rfl
theorem inc_sel : ∀ (r k : Nat) (s : Nat → Nat), Inc k r s → ∃ R, R < 2 ^ r ∧ sel R r = (List.range k).map s
  | 0, k, s, h => by
    have : k = 0 := by
      rcases Nat.eq_zero_or_pos k with h0 | h0
      · exact h0
      · exact absurd (h.2 0 h0) (Nat.not_lt_zero _)
    subst this
    exact ⟨0, by decide, rfl⟩
  | r + 1, k, s, h => by
    by_cases hc : 0 < k ∧ s (k - 1) = r
    · obtain ⟨h0, h1⟩ := hc
      obtain ⟨m, rfl⟩ : ∃ m, k = m + 1 := ⟨k - 1, by omega⟩
      rw [Nat.add_sub_cancel] at h1
      obtain ⟨R, hR, hs⟩ := inc_sel r m s ⟨fun p hp => h.1 p (by omega), fun p hp => by have := inc_lt h (p := p) (q := m) hp (by omega); omega⟩
      refine ⟨R + 2 ^ r, by rw [Nat.pow_succ]; omega, ?_⟩
      rw [sel_succ, if_pos (bit_top hR), List.range_succ, List.map_append, ← hs]
      simp only [List.map_cons, List.map_nil, h1]
      congr 1
      exact List.filter_congr fun i hi => bit_add (List.mem_range.1 hi)
    · obtain ⟨R, hR, hs⟩ := inc_sel r k s ⟨fun p hp => h.1 p hp, fun p hp => by
        have h2 := h.2 p hp
        have h3 := h.2 (k - 1) (by omega)
        rcases Nat.lt_or_ge p (k - 1) with h4 | h4
        · have := inc_lt h (p := p) (q := k - 1) h4 (by omega); omega
        · have : p = k - 1 := by omega
          subst this; omega⟩
      refine ⟨R, by rw [Nat.pow_succ]; omega, ?_⟩
      rw [sel_succ, bit_none hR, if_neg (by simp), List.append_nil]
      exact hs
/-- the rows and columns that are picked -/
def subM (a : Mat) (R C : List Nat) : Mat := R.map fun i => C.map fun j => ent a i j
theorem subM_rect (a : Mat) (R C : List Nat) : Rect (subM a R C) R.length C.length := ⟨by simp [subM], fun x hx => by
  obtain ⟨i, -, rfl⟩ := List.mem_map.1 hx
  simp⟩
theorem subM_ent {a : Mat} {R C : List Nat} {p q : Nat} (hp : p < R.length) (hq : q < C.length) : ent (subM a R C) p q = ent a (R.getD p 0) (C.getD q 0) := by
  have e : (subM a R C).getD p [] = C.map fun j => ent a (R.getD p 0) j := by simp [subM, List.getD_eq_getElem?_getD, hp]
  show ((subM a R C).getD p []).getD q 0 = _
  rw [e]
  simp [List.getD_eq_getElem?_getD, hq]
/-- the greatest common divisor goes on -/
def gStep (k : Nat) (a : Mat) (R C : List Nat) (g : Int) : Int := if R.length = k ∧ C.length = k then (Int.gcd g (detE k (ent (subM a R C))) : Int) else g
def colG (k : Nat) (a : Mat) (r n R : Nat) : Nat → Int → Int
  | 0, g => g
  | C + 1, g => gStep k a (sel R r) (sel C n) (colG k a r n R C g)
def rowG (k : Nat) (a : Mat) (r n : Nat) : Nat → Int
  | 0 => 0
  | R + 1 => colG k a r n R (2 ^ n) (rowG k a r n R)
def minG (k : Nat) (a : Mat) (r n : Nat) : Int := rowG k a r n (2 ^ r)
theorem dvd_gcd_iff {c a b : Int} : c ∣ (Int.gcd a b : Int) ↔ c ∣ a ∧ c ∣ b :=
  ⟨fun h => ⟨Int.dvd_trans h (Int.gcd_dvd_left ..), Int.dvd_trans h (Int.gcd_dvd_right ..)⟩, fun h => Int.dvd_coe_gcd h.1 h.2⟩
theorem colG_dvd {k : Nat} {a : Mat} {r n R : Nat} {c : Int} : ∀ (C : Nat) (g : Int), c ∣ colG k a r n R C g ↔ c ∣ g ∧ ∀ C', C' < C → (sel R r).length = k → (sel C' n).length = k → c ∣ detE k (ent (subM a (sel R r) (sel C' n)))
  | 0, g => by simp [colG]
  | C + 1, g => by
    unfold colG gStep
    split
    · rename_i h
      rw [dvd_gcd_iff, colG_dvd C g]
      constructor
      · rintro ⟨⟨h1, h2⟩, h3⟩
        refine ⟨h1, fun C' hC e1 e2 => ?_⟩
        by_cases e : C' = C
        · subst e; exact h3
        · exact h2 C' (by omega) e1 e2
      · rintro ⟨h1, h2⟩
        exact ⟨⟨h1, fun C' hC => h2 C' (by omega)⟩, h2 C (by omega) h.1 h.2⟩
    · rename_i h
      rw [colG_dvd C g]
      constructor
      · rintro ⟨h1, h2⟩
        refine ⟨h1, fun C' hC e1 e2 => ?_⟩
        by_cases e : C' = C
        · subst e; exact absurd ⟨e1, e2⟩ h
        · exact h2 C' (by omega) e1 e2
      · rintro ⟨h1, h2⟩
        exact ⟨h1, fun C' hC => h2 C' (by omega)⟩
theorem rowG_dvd {k : Nat} {a : Mat} {r n : Nat} {c : Int} : ∀ (R : Nat), c ∣ rowG k a r n R ↔ ∀ R', R' < R → ∀ C', C' < 2 ^ n → (sel R' r).length = k → (sel C' n).length = k → c ∣ detE k (ent (subM a (sel R' r) (sel C' n)))
  | 0 => by simp [rowG]
  | R + 1 => by
    unfold rowG
    rw [colG_dvd, rowG_dvd R]
    constructor
    · rintro ⟨h1, h2⟩ R' hR
      by_cases e : R' = R
      · subst e; exact h2
      · exact h1 R' (by omega)
    · intro h
      exact ⟨fun R' hR => h R' (by omega), h R (by omega)⟩
theorem minG_dvd {k : Nat} {a : Mat} {r n : Nat} {c : Int} (hk : k ≤ 4) (ha : Rect a r n) : c ∣ minG k a r n ↔ DT k c a := by
  unfold minG
  rw [rowG_dvd]
  constructor
  · intro h
    refine dt_of_inc hk ha fun s t hs ht => ?_
    obtain ⟨R, hR, eR⟩ := inc_sel r k s hs
    obtain ⟨C, hC, eC⟩ := inc_sel n k t ht
    have := h R hR C hC (by rw [eR]; simp) (by rw [eC]; simp)
    rw [eR, eC] at this
    rw [det_congr (g := ent (subM a ((List.range k).map s) ((List.range k).map t))) fun i j hi hj => ?_]
    · exact this
    · rw [subM_ent (by simpa using hi) (by simpa using hj)]
      simp [List.getD_eq_getElem?_getD, hi, hj]
  · intro h R _ C _ e1 e2
    have := h (fun p => (sel R r).getD p 0) (fun q => (sel C n).getD q 0)
    rw [det_congr (g := fun p q => ent a ((sel R r).getD p 0) ((sel C n).getD q 0)) fun i j hi hj => subM_ent (by omega) (by omega)]
    exact this
theorem colG_nonneg {k : Nat} {a : Mat} {r n R : Nat} : ∀ (C : Nat) (g : Int), 0 ≤ g → 0 ≤ colG k a r n R C g
  | 0, _, h => h
  | C + 1, g, h => by
    unfold colG gStep
    split
    · exact Int.natCast_nonneg _
    · exact colG_nonneg C g h
theorem rowG_nonneg {k : Nat} {a : Mat} {r n : Nat} : ∀ R, 0 ≤ rowG k a r n R
  | 0 => Int.le_refl _
  | R + 1 => colG_nonneg _ _ (rowG_nonneg R)
/-- the minors and the diagonal form -/
theorem minG_law {k n : Nat} {l : Mat} {s : S} (hk : k ≤ 4) (hv : Valid n l) (ho : Out n l (some s)) : minG k l l.length n = prodN (dia s) k :=
  eq_of_dvd (rowG_nonneg _) (prod_nonneg (out_end hv ho) k) fun c => by rw [minG_dvd hk ⟨rfl, hv.row⟩, minors_law hk hv ho]
end Go.Proofs.Sm
namespace Go.Proofs
open Go.RowKit Go.Shelf Go.Proofs.Sm
theorem gcd_le {g d : Int} {B : Nat} (hg : 0 ≤ g ∧ g ≤ B) (hd : -(B : Int) ≤ d ∧ d ≤ B) : (Int.gcd g d : Int) ≤ B := by
  by_cases h0 : d = 0
  · subst h0
    rw [Int.gcd_zero_right]; omega
  · have := Int.gcd_le_natAbs_right (a := g) (b := d) h0
    omega
theorem colG_le {k : Nat} {a : Mat} {r n R B : Nat} (hd : ∀ R C : List Nat, R.length = k → C.length = k → -(B : Int) ≤ detE k (ent (subM a R C)) ∧ detE k (ent (subM a R C)) ≤ B) : ∀ (C : Nat) (g : Int), 0 ≤ g → g ≤ B → colG k a r n R C g ≤ B
  | 0, _, _, h => h
  | C + 1, g, h0, h => by
    unfold colG gStep
    split
    · rename_i hl
      exact gcd_le ⟨colG_nonneg C g h0, colG_le hd C g h0 h⟩ (hd _ _ hl.1 hl.2)
    · exact colG_le hd C g h0 h
theorem rowG_le {k : Nat} {a : Mat} {r n B : Nat} (hd : ∀ R C : List Nat, R.length = k → C.length = k → -(B : Int) ≤ detE k (ent (subM a R C)) ∧ detE k (ent (subM a R C)) ≤ B) : ∀ R, rowG k a r n R ≤ B
  | 0 => Int.natCast_nonneg _
  | R + 1 => colG_le hd _ _ (rowG_nonneg R) (rowG_le hd R)
theorem subM_bd {a : Mat} (hb : ∀ i j, -6 ≤ ent a i j ∧ ent a i j ≤ 6) (R C : List Nat) : ∀ i j, -6 ≤ ent (subM a R C) i j ∧ ent (subM a R C) i j ≤ 6 := fun i j => by
  rcases Nat.lt_or_ge i R.length with hi | hi
  · rcases Nat.lt_or_ge j C.length with hj | hj
    · rw [subM_ent hi hj]; exact hb _ _
    · rw [ent_right (subM_rect a R C) hj]; omega
  · rw [ent_out (by rw [(subM_rect a R C).1]; exact hi)]; omega
theorem detB4 {k : Nat} (hk : k ≤ 4) : detB k ≤ 31104 := by
  obtain rfl | rfl | rfl | rfl | rfl : k = 0 ∨ k = 1 ∨ k = 2 ∨ k = 3 ∨ k = 4 := by omega
  all_goals decide
theorem subM_det {k : Nat} (hk : k ≤ 4) {a : Mat} (hb : ∀ i j, -6 ≤ ent a i j ∧ ent a i j ≤ 6) (R C : List Nat) : -((31104 : Nat) : Int) ≤ detE k (ent (subM a R C)) ∧ detE k (ent (subM a R C)) ≤ (31104 : Nat) := by
  have h1 := det_bound (k := k) (subM_bd hb R C)
  have h2 := detB4 hk
  omega
/-- the matrix of a minor, as it grows -/
def GM (base : Nat) (w : World) (v : Value) (a : Mat) (R C : List Nat) : Prop := if 0 < C.length then ∃ bl cs, MatM base w v bl cs (subM a R C) else ∃ vs, w.ownsRow base 25 1 v R.length vs
theorem GM.nil (base : Nat) (w : World) (a : Mat) (C : List Nat) : GM base w (.slice none 0 0) a [] C := by
  unfold GM
  split
  · exact ⟨_, _, MatM.nil _ _⟩
  · exact ⟨[], World.ownsRow_nil _ _ _ _⟩
theorem owns_kept {base : Nat} {w w' : World} {v : Value} {m : Nat} {vs : List Value} (h : w.ownsRow base 25 1 v m vs) (hb : Below w.heap.size w w') : w'.ownsRow base 25 1 v m vs :=
  owns_keep h fun r hr => hb.block r (by obtain ⟨-, C, hC⟩ := owns_block h r hr; exact (Array.getElem?_eq_some_iff.1 hC).1)
theorem GM.keep {base : Nat} {w w' : World} {v : Value} {a : Mat} {R C : List Nat} (h : GM base w v a R C) (hb : Below w.heap.size w w') : GM base w' v a R C := by
  unfold GM at *
  split
  · rename_i hc
    rw [if_pos hc] at h
    obtain ⟨bl, cs, hM⟩ := h
    exact ⟨bl, cs, hM.keep hb⟩
  · rename_i hc
    rw [if_neg hc] at h
    obtain ⟨vs, ho⟩ := h
    exact ⟨vs, owns_kept ho hb⟩
/-- a row joins -/
theorem GM.push {w wr w2 : World} {A : Option Addr} {m c : Nat} {a : Mat} {R C : List Nat} (h : GM w.heap.size wr (.slice A m c) a R C) (hB : Below w.heap.size w wr) (hm : m = R.length) (hml : m ≤ 1000) {A2 : Option Addr} {q c2 i : Nat} (hq : q = C.length)
    (ho : OwnI wr.heap.size w2 (.slice A2 q c2) (C.map (ent a i))) (hb : Below wr.heap.size wr w2) :
    ∃ A' c' w', (Builtin.append_ #[22, 22] 22 #[.slice A m c, .slice (some ⟨w2.heap.size, 0, none⟩) 1 1]).run Try.prog (w2.alloc (.cells #[.slice A2 q c2] 25)) = .ok (.slice A' (m + 1) c') w' ∧ GM w.heap.size w' (.slice A' (m + 1) c') a (R ++ [i]) C ∧ Below w.heap.size w w' := by
  have hB2 := hB.trans (hb.mono hB.size)
  unfold GM at *
  by_cases hc : 0 < C.length
  · rw [if_pos hc] at h
    obtain ⟨bl, cs, hM⟩ := h
    have hl : (C.map (ent a i)).length = q := by rw [List.length_map, hq]
    obtain ⟨g, rfl, hx, hg, hc1, hc2⟩ := owns_xs (by rw [hl]; exact ho) (by rw [hl, hq]; exact hc)
    have hMk := hM.keep hb
    have hlm : (subM a R C).length = m := by rw [(subM_rect a R C).1, hm]
    obtain ⟨A', c', w', hr, ⟨bl', cs', hm'⟩, hgr⟩ := hMk.push hB2.size hx (Nat.le_trans hB.size hg) hc1 hc2 (fun j hj e => by have := hM.lt.1 j hj; omega) (by rw [hlm]; omega)
    rw [hlm, hl] at hr
    rw [hlm] at hm'
    refine ⟨A', c', w', hr, ?_, hB2.grown hgr hB2.size fun r hr => (owns_block hMk.out r hr).1⟩
    rw [if_pos hc]
    refine ⟨bl', cs', ?_⟩
    have e : subM a (R ++ [i]) C = subM a R C ++ [C.map (ent a i)] := by simp [subM]
    rw [e]
    exact hm'
  · rw [if_neg hc] at h
    obtain ⟨vs, hv⟩ := h
    have hv2 := owns_kept hv hb
    obtain ⟨A', c', w', hr, ho', hgr, hw⟩ := run_push (ty := 22) Try.underlying22 info24p rfl (by omega) w2 w.heap.size (.slice A m c) R.length _ hv2 (.slice A2 q c2) rfl (by omega) hB2.size
    rw [← hm] at hr ho'
    refine ⟨A', c', w', hr, ?_, hB2.grown hgr hB2.size fun r hr => (owns_block hv2 r hr).1⟩
    rw [if_neg hc]
    rw [show (R ++ [i]).length = m + 1 by simp [hm]]
    exact ⟨_, ho'⟩
theorem GM.tab {base : Nat} {w : World} {v : Value} {a : Mat} {R C : List Nat} (h : GM base w v a R C) (hc : 0 < C.length) (hb : ∀ i j, -6 ≤ ent a i j ∧ ent a i j ≤ 6) : Tab w v (subM a R C) := by
  unfold GM at h
  rw [if_pos hc] at h
  obtain ⟨bl, cs, hM⟩ := h
  exact hM.tab (fits_mat fun i j => by have := subM_bd hb R C i j; omega)
end Go.Proofs
namespace Go.Proofs
open Go.RowKit Go.Shelf Go.Proofs.Sm
section
variable {base : Nat} {w : World} {v : Value} {bl cs : Nat → Nat} {m : Mat}
theorem MatM.row_at (h : MatM base w v bl cs m) {i : Nat} (hi : i < m.length) : ∃ g c, v = .slice (some ⟨g, 0, none⟩) m.length c ∧ w.cell? ⟨g, i, none⟩ = some (.slice (some ⟨bl i, 0, none⟩) (m.getD i []).length (cs i)) ∧ w.frozen? ⟨g, i, none⟩ = false ∧ base ≤ g := by
  obtain ⟨hl, ho⟩ := h.out
  rcases ho with ⟨-, h0⟩ | ⟨g, cap, cur, e, hb, hC, h1, hm, hs, ht⟩
  · omega
  · refine ⟨g, cap, e, ?_, by simp [World.frozen?, hC], hb⟩
    rw [cell_of_row _ _ _ _ _ _ hC]
    have h2 : (cur.toList.take (m.length * 1))[i]? = ((List.range m.length).map fun i => Value.slice (some ⟨bl i, 0, none⟩) (m.getD i []).length (cs i))[i]? := by rw [ht]
    rw [List.getElem?_take, if_pos (by omega)] at h2
    simpa [hi] using h2
theorem MatM.ent_at (h : MatM base w v bl cs m) {i j : Nat} (hi : i < m.length) (hj : j < (m.getD i []).length) : w.cell? ⟨bl i, j, none⟩ = some (.int .i64 (ent m i j)) ∧ w.frozen? ⟨bl i, j, none⟩ = false :=
  let ⟨_, hX, _⟩ := h.row i hi; ⟨hX.cell hj, hX.frozen j⟩
/-- writing an entry -/
theorem MatM.set (h : MatM base w v bl cs m) {i j : Nat} (hi : i < m.length) (hj : j < (m.getD i []).length) (z : Int) : MatM base (w.setCell ⟨bl i, j, none⟩ (.int .i64 z)) v bl cs (put m i j z) := by
  have hne : ∀ p, p ≠ bl i → (w.setCell ⟨bl i, j, none⟩ (.int .i64 z)).heap[p]? = w.heap[p]? := fun p hp => Below.heap_setCell w ⟨bl i, j, none⟩ _ p hp
  obtain ⟨C, hC⟩ := h.row_ty hi
  refine ⟨?_, fun p hp => ?_, fun p q hp hq => h.inj p q (by rw [length_put] at hp; exact hp) (by rw [length_put] at hq; exact hq)⟩
  · simp only [length_put, rowlen_put]
    refine owns_keep h.out fun r hr => hne r fun e => ?_
    obtain ⟨-, C', hC'⟩ := owns_block h.out r hr
    rw [e, hC] at hC'
    injection hC' with h5
    injection h5 with _ h6 _
    exact absurd h6 (by decide)
  · rw [length_put] at hp
    obtain ⟨a, b', d⟩ := h.row p hp
    rw [rowlen_put]
    refine ⟨a, ?_, d⟩
    rw [row_put]
    by_cases e : i = p
    · subst e
      rw [if_pos ⟨rfl, hi⟩]
      exact b'.set hj z
    · rw [if_neg (fun hh => e hh.1)]
      exact b'.keep (hne _ fun e2 => e (h.inj p i hp hi e2).symm)
/-- two rows change places -/
theorem MatM.swap (h : MatM base w v bl cs m) {i j g : Nat} (hi : i < m.length) (hj : j < m.length) (hg : v.ownBlock = some g) :
    MatM base ((w.setCell ⟨g, i, none⟩ (.slice (some ⟨bl j, 0, none⟩) (m.getD j []).length (cs j))).setCell ⟨g, j, none⟩ (.slice (some ⟨bl i, 0, none⟩) (m.getD i []).length (cs i))) v (fun p => bl (sw i j p)) (fun p => cs (sw i j p)) (swR m i j) := by
  obtain ⟨hbg, Cg, hCg⟩ := owns_block h.out g hg
  have hne : ∀ p, p ≠ g → ((w.setCell ⟨g, i, none⟩ (.slice (some ⟨bl j, 0, none⟩) (m.getD j []).length (cs j))).setCell ⟨g, j, none⟩ (.slice (some ⟨bl i, 0, none⟩) (m.getD i []).length (cs i))).heap[p]? = w.heap[p]? := fun p hp =>
    (Below.heap_setCell _ ⟨g, j, none⟩ _ p hp).trans (Below.heap_setCell w ⟨g, i, none⟩ _ p hp)
  have hlen : (swR m i j).length = m.length := by simp [swR]
  have hrow : ∀ p, (swR m i j).getD p [] = m.getD (sw i j p) [] := fun p => by
    unfold swR sw
    rw [getD_set_, getD_set_, List.length_set]
    by_cases e : j = p
    · subst e
      rw [if_pos ⟨rfl, hj⟩]
      by_cases e2 : j = i
      · rw [if_pos e2, e2]
      · rw [if_neg e2, if_pos rfl]
    · rw [if_neg (fun hh => e hh.1)]
      by_cases e2 : i = p
      · rw [if_pos ⟨e2, hi⟩, if_pos e2.symm]
      · rw [if_neg (fun hh => e2 hh.1), if_neg (fun hh => e2 hh.symm), if_neg (fun hh => e hh.symm)]
  have hswl : ∀ p, p < m.length → sw i j p < m.length := fun p hp => sw_bd hi hj hp
  have hinj : ∀ p q, sw i j p = sw i j q → p = q := fun p q e => by
    unfold sw at e
    split at e <;> split at e <;> first | omega | (split at e <;> first | omega | (split at e <;> omega))
  refine ⟨?_, fun p hp => ?_, fun p q hp hq e => ?_⟩
  · rw [hlen]
    have h2 := owns_set (i := j) (owns_set (i := i) h.out hg (.slice (some ⟨bl j, 0, none⟩) (m.getD j []).length (cs j))) hg (.slice (some ⟨bl i, 0, none⟩) (m.getD i []).length (cs i))
    have e2 : ((((List.range m.length).map fun i => Value.slice (some ⟨bl i, 0, none⟩) (m.getD i []).length (cs i)).set i (.slice (some ⟨bl j, 0, none⟩) (m.getD j []).length (cs j))).set j (.slice (some ⟨bl i, 0, none⟩) (m.getD i []).length (cs i))) =
        (List.range m.length).map fun p => Value.slice (some ⟨bl (sw i j p), 0, none⟩) ((swR m i j).getD p []).length (cs (sw i j p)) := by
      apply List.ext_getElem (by simp)
      intro p hp1 hp2
      simp only [List.length_set, List.length_map, List.length_range] at hp1
      rw [List.getElem_set, List.getElem_set]
      simp only [List.getElem_map, List.getElem_range, hrow p]
      unfold sw
      by_cases e3 : j = p
      · subst e3
        rw [if_pos rfl]
        by_cases e4 : j = i
        · rw [if_pos e4, e4]
        · rw [if_neg e4, if_pos rfl]
      · rw [if_neg e3]
        by_cases e4 : i = p
        · rw [if_pos e4, if_pos e4.symm]
        · rw [if_neg e4, if_neg (fun h => e4 h.symm), if_neg (fun h => e3 h.symm)]
    rw [← e2]
    exact h2
  · rw [hlen] at hp
    have h4 := h.row _ (hswl p hp)
    rw [hrow p]
    exact ⟨h4.1, h4.2.1.keep (hne _ fun e2 => by
      obtain ⟨C, hC⟩ := h.row_ty (hswl p hp)
      rw [e2, hCg] at hC
      injection hC with h5
      injection h5 with _ h6 _
      exact absurd h6 (by decide)), h4.2.2⟩
  · rw [hlen] at hp hq
    exact hinj _ _ (h.inj _ _ (hswl p hp) (hswl q hq) e)
end
end Go.Proofs
namespace Go.Proofs
open Go.RowKit Go.Shelf Go.Proofs.Sm
/-- a matrix after changes of rows that keep its minors' divisors -/
structure Chg (rows n : Nat) (B : Int) (D A : Mat) : Prop where
  rect : Rect A rows n
  bd : ∀ i j, -B ≤ ent A i j ∧ ent A i j ≤ B
  same : ∀ k c, k ≤ 4 → (DT k c A ↔ DT k c D)
section
variable {rows n : Nat} {B : Int} {D A : Mat}
theorem Chg.swap (h : Chg rows n B D A) {i j : Nat} (hi : i < rows) (hj : j < rows) : Chg rows n B D (swR A i j) :=
  ⟨rect_swR h.rect hi hj, fun p q => by rw [ent_swR h.rect hi hj]; exact h.bd _ _, fun k c hk => (dt_swR_iff h.rect hi hj).trans (h.same k c hk)⟩
theorem Chg.neg (h : Chg rows n B D A) {i : Nat} (hi : i < rows) : Chg rows n B D (Sm.addR A i i (-2)) :=
  ⟨rect_addR h.rect hi _, fun p q => by
    have h1 := h.bd i q
    have h2 := h.bd p q
    rw [ent_addR h.rect hi hi]
    split <;> omega, fun k c hk => (dt_neg_iff hk h.rect hi).trans (h.same k c hk)⟩
theorem Chg.add (h : Chg rows n B D A) {i j : Nat} (hi : i < rows) (hj : j < rows) (hne : i ≠ j) : Chg rows n (2 * B) D (Sm.addR A i j 1) :=
  ⟨rect_addR h.rect hj _, fun p q => by
    have h1 := h.bd i q
    have h2 := h.bd p q
    have h3 := h.bd j q
    rw [ent_addR h.rect hi hj]
    split <;> omega, fun k c hk => (dt_addR_iff hk h.rect hi hj hne 1).trans (h.same k c hk)⟩
theorem Chg.mono (h : Chg rows n B D A) {B' : Int} (hB : B ≤ B') : Chg rows n B' D A := ⟨h.rect, fun i j => by have := h.bd i j; omega, h.same⟩
theorem Chg.valid (h : Chg rows n B D A) (hB : B ≤ 1000000) : Valid n A := ⟨h.rect.2, fun i j => by have := h.bd i j; omega⟩
end
theorem chg_start (l : List Int) (rows n : Nat) : Chg rows n 6 (drawnE l rows n) (drawnE l rows n) := ⟨drawn_rect l rows n, fun i j => by
  unfold ent
  rcases Nat.lt_or_ge i rows with hi | hi
  · have : (drawnE l rows n).getD i [] = drRow l n i := by simp [drawnE, List.getD_eq_getElem?_getD, hi]
    rw [this]
    rcases Nat.lt_or_ge j n with hj | hj
    · have h2 : (drRow l n i).getD j 0 = dr l (i * n + j) := by simp [drRow, List.getD_eq_getElem?_getD, hj]
      rw [h2]
      exact dr_bd l (i * n + j)
    · rw [List.getD_eq_getElem?_getD, List.getElem?_eq_none (by rw [drRow_length]; exact hj)]; simp
  · rw [List.getD_eq_getElem?_getD (l := drawnE l rows n), List.getElem?_eq_none (by rw [drawnE_length]; exact hi)]; simp, fun _ _ _ => Iff.rfl⟩
/-- what the changed matrix gives -/
theorem chg_end {l : List Int} {rows n : Nat} {B : Int} {A : Mat} (h : Chg rows n B (drawnE l rows n) A) (hB : B ≤ 1000000) (h4 : rows ≤ 4) (h1 : 1 ≤ n) (hn4 : n ≤ 4) {s : S} (ho : Out n (drawnE l rows n) (some s)) : SmE n A [] [] [] 5 ∨ ∃ u v, SmE n A (diagOf s) u v 0 := by
  have hv := h.valid hB
  have hc := check_ok h1 (by omega) (by rw [h.rect.1]; omega) hv
  obtain ⟨o, ho'⟩ := out_ex hv
  have e : ((n : Int)).toNat = n := Int.toNat_natCast n
  cases o with
  | none => exact .inl (.inr ⟨hc, .inl ⟨by rw [e]; exact ho', rfl, rfl, rfl, rfl⟩⟩)
  | some s' =>
    have hd := diag_same h.rect.1 (drawnE_length l rows n) h4 hv (drawn_valid l rows n) ho' ho h.same
    exact .inr ⟨s'.u, s'.v, .inr ⟨hc, .inr ⟨s', by rw [e]; exact ho', hd.symm, rfl, rfl, rfl⟩⟩⟩
/-- the products that the minors are held against -/
theorem min_prod {l : List Int} {rows n : Nat} {s : S} (h4 : rows ≤ 4) (ho : Out n (drawnE l rows n) (some s)) :
    (∀ k, k ≤ 4 → minG k (drawnE l rows n) rows n = prodN (dia s) k) ∧ (∀ k, k ≤ 4 → 0 ≤ prodN (dia s) k ∧ prodN (dia s) k ≤ 31104) ∧
      (∀ k, k < (diagOf s).length → prodN (dia s) (k + 1) = prodN (dia s) k * (diagOf s).getD k 0) ∧ (∀ k, (diagOf s).length ≤ k → prodN (dia s) (k + 1) = 0) ∧ (diagOf s).length ≤ 4 ∧ Fits (diagOf s) := by
  have hv := drawn_valid l rows n
  have hl := drawnE_length l rows n
  have he := out_end hv ho
  rw [hl] at he
  have hmin : ∀ k, k ≤ 4 → minG k (drawnE l rows n) rows n = prodN (dia s) k := fun k hk => by
    have := minG_law hk hv ho
    rwa [hl] at this
  refine ⟨hmin, fun k hk => ?_, fun k hk => ?_, fun k hk => ?_, ?_, ?_⟩
  · rw [← hmin k hk]
    have := rowG_le (k := k) (a := drawnE l rows n) (r := rows) (n := n) (fun R C _ _ => subM_det hk (fun i j => by have := (chg_start l rows n).bd i j; omega) R C) (2 ^ rows)
    have h0 := rowG_nonneg (k := k) (a := drawnE l rows n) (r := rows) (n := n) (2 ^ rows)
    unfold minG
    omega
  · rw [length_diagOf] at hk
    rw [diagOf_getD s hk]
    rfl
  · rw [length_diagOf] at hk
    exact prod_zero he (by omega)
  · rw [length_diagOf]
    have := he.tr
    omega
  · intro x hx
    obtain ⟨i, hi, rfl⟩ := List.mem_map.1 hx
    have h2 := fineM_iff.1 he.fa i i
    omega
theorem MatM.base {base base' : Nat} {w : World} {v : Value} {bl cs : Nat → Nat} {m : Mat} (h : MatM base w v bl cs m) (hb : base' ≤ base) : MatM base' w v bl cs m :=
  ⟨owns_base h.out hb, fun i hi => let ⟨a, b, c⟩ := h.row i hi; ⟨Nat.le_trans hb a, b, c⟩, h.inj⟩
theorem MatM.grown {base : Nat} {w w' : World} {v : Value} {bl cs : Nat → Nat} {m : Mat} (h : MatM base w v bl cs m) {b : Nat} {C : Array Value} (hb : w.heap[b]? = some (.cells C 39 (0, 0))) (hg : w.grownBy w' (some b)) : MatM base w' v bl cs m := by
  refine h.same (fun r hr => hg.block r (h.lt.2 r hr).2 (fun e => ?_)) (fun i hi => hg.block _ (h.lt.1 i hi) (fun e => ?_))
  · obtain rfl := Option.some.inj e
    obtain ⟨-, C', hC'⟩ := owns_block h.out _ hr
    rw [hb] at hC'
    injection hC' with h5
    injection h5 with _ h6 _
    exact absurd h6 (by decide)
  · obtain rfl := Option.some.inj e
    obtain ⟨C', hC'⟩ := h.row_ty hi
    rw [hb] at hC'
    injection hC' with h5
    injection h5 with _ h6 _
    exact absurd h6 (by decide)
end Go.Proofs
namespace Go.Proofs
open Go.RowKit Go.Shelf Go.Proofs.Sm
/-- the word of a row: the letter of the generator k as often as the row's entry k says -/
def letterOf (z : Int) (k : Nat) : Int := if z < 0 then -((k : Int) + 1) else (k : Int) + 1
def wordTo (row : List Int) : Nat → List Int
  | 0 => []
  | k + 1 => wordTo row k ++ List.replicate (row.getD k 0).natAbs (letterOf (row.getD k 0) k)
theorem letterOf_abs (z : Int) (k : Nat) : (letterOf z k).natAbs = k + 1 := by unfold letterOf; split <;> omega
theorem wordTo_mem {row : List Int} : ∀ {n : Nat} {c : Int}, c ∈ wordTo row n → c ≠ 0 ∧ -(n : Int) ≤ c ∧ c ≤ n
  | 0, c, h => by cases h
  | n + 1, c, h => by
    unfold wordTo at h
    rcases List.mem_append.1 h with h1 | h1
    · have := wordTo_mem h1; omega
    · have e := List.eq_of_mem_replicate h1
      have := letterOf_abs (row.getD n 0) n
      rw [← e] at this
      omega
theorem count_rep (m : Nat) (a b : Int) : (List.replicate m a).count b = if a = b then m else 0 := by
  rw [List.count_replicate]; simp
theorem sumAt_wordTo (row : List Int) : ∀ (n k : Nat), sumAt (wordTo row n) k = if k < n then row.getD k 0 else 0
  | 0, k => by simp [wordTo, sumAt]
  | n + 1, k => by
    have ih := sumAt_wordTo row n k
    unfold sumAt at ih ⊢
    unfold wordTo
    rw [List.count_append, List.count_append, count_rep, count_rep]
    have hab := letterOf_abs (row.getD n 0) n
    by_cases e : k = n
    · subst e
      rw [if_neg (Nat.lt_irrefl _)] at ih
      rw [if_pos (Nat.lt_succ_self _)]
      unfold letterOf
      by_cases hz : row.getD k 0 < 0
      · rw [if_pos hz, if_neg (by omega), if_pos rfl]; omega
      · rw [if_neg hz, if_pos rfl, if_neg (by omega)]; omega
    · rw [if_neg (by omega), if_neg (by omega)]
      by_cases h1 : k < n
      · rw [if_pos h1] at ih; rw [if_pos (by omega)]; omega
      · rw [if_neg h1] at ih; rw [if_neg (by omega)]; omega
theorem sums_wordTo {row : List Int} {n : Nat} (h : row.length = n) : sumsE n (wordTo row n) = row := by
  apply List.ext_getElem (by rw [sumsE_length, h])
  intro i h1 h2
  have e : (sumsE n (wordTo row n)).getD i 0 = row.getD i 0 := by
    rw [sumsE_getD _ (by omega), sumAt_wordTo, if_pos (by omega)]
  simpa [List.getD_eq_getElem?_getD, h1, h2] using e
def negL (xs : List Int) : List Int := xs.map fun x => -x
theorem count_neg (xs : List Int) (a : Int) : (negL xs).count a = xs.count (-a) := by
  unfold negL
  induction xs with
  | nil => rfl
  | cons x xs ih =>
    rw [List.map_cons, List.count_cons, List.count_cons, ih]
    congr 1
    by_cases h : x = -a
    · rw [if_pos (by simp; omega), if_pos (by simp; omega)]
    · rw [if_neg (by simp; omega), if_neg (by simp; omega)]
theorem sums_neg (n : Nat) (xs : List Int) : sumsE n (negL xs) = negL (sumsE n xs) := by
  unfold sumsE
  show _ = ((List.range n).map (sumAt xs)).map _
  rw [List.map_map]
  refine List.map_congr_left fun k _ => ?_
  show sumAt (negL xs) k = -(sumAt xs k)
  unfold sumAt
  rw [count_neg, count_neg, Int.neg_neg]
  omega
theorem wordTo_len {row : List Int} (hb : ∀ k, -6 ≤ row.getD k 0 ∧ row.getD k 0 ≤ 6) : ∀ n, (wordTo row n).length ≤ 6 * n
  | 0 => Nat.le_refl _
  | n + 1 => by
    have := wordTo_len hb n
    have := hb n
    unfold wordTo
    rw [List.length_append, List.length_replicate]
    omega
theorem wordOk_to {row : List Int} {n : Nat} (hb : ∀ k, -6 ≤ row.getD k 0 ∧ row.getD k 0 ≤ 6) (hn : n ≤ 16) : WordOk n (wordTo row n) := ⟨by have := wordTo_len hb n; omega, fun c hc => wordTo_mem hc⟩
theorem wordOk_neg {n : Nat} {xs : List Int} (h : WordOk n xs) : WordOk n (negL xs) := ⟨by unfold negL; rw [List.length_map]; exact h.1, fun c hc => by
  obtain ⟨x, hx, rfl⟩ := List.mem_map.1 hc
  have := h.2 x hx
  omega⟩
/-- the rows negated, in turned order -/
def turned (D : Mat) : Mat := (D.map negL).reverse
theorem det_neg {k : Nat} (hk : k ≤ 4) (f : Nat → Nat → Int) : detE k (fun i j => -(f i j)) = detE k f ∨ detE k (fun i j => -(f i j)) = -(detE k f) := by
  obtain rfl | rfl | rfl | rfl | rfl : k = 0 ∨ k = 1 ∨ k = 2 ∨ k = 3 ∨ k = 4 := by omega
  · exact .inl rfl
  · right; simp only [det1]
  · left; simp only [det2]; grind
  · right; simp only [det3]; grind
  · left; simp only [det4]; grind
theorem turned_ent {D : Mat} {r n : Nat} (h : Rect D r n) (i j : Nat) : ent (turned D) i j = -(ent D (if i < r then r - 1 - i else i) j) := by
  by_cases hi : i < r
  · rw [if_pos hi]
    have e : (turned D).getD i [] = negL (D.getD (r - 1 - i) []) := by
      unfold turned
      rw [List.getD_eq_getElem?_getD, List.getElem?_reverse (by simp [h.1]; exact hi)]
      simp only [List.length_map, h.1]
      rw [List.getElem?_map, List.getD_eq_getElem?_getD]
      have : r - 1 - i < D.length := by rw [h.1]; omega
      rw [List.getElem?_eq_getElem this]
      rfl
    unfold ent
    rw [e]
    generalize List.getD D (r - 1 - i) [] = y
    unfold negL
    rw [List.getD_eq_getElem?_getD, List.getElem?_map, List.getD_eq_getElem?_getD]
    cases y[j]? <;> simp
  · rw [if_neg hi, ent_out (by simp [turned, h.1]; omega), ent_out (by rw [h.1]; omega)]; rfl
theorem turned_rect {D : Mat} {r n : Nat} (h : Rect D r n) : Rect (turned D) r n := ⟨by simp [turned, h.1], fun x hx => by
  unfold turned at hx
  obtain ⟨y, hy, rfl⟩ := List.mem_map.1 (List.mem_reverse.1 hx)
  unfold negL
  rw [List.length_map]
  exact h.2 y hy⟩
theorem turned_dt {D : Mat} {r n k : Nat} {c : Int} (hk : k ≤ 4) (h : Rect D r n) (hd : DT k c D) : DT k c (turned D) := fun s t => by
  rw [det_congr (g := fun p q => -(ent D (if s p < r then r - 1 - s p else s p) (t q))) (fun p q _ _ => turned_ent h _ _)]
  have := hd (fun p => if s p < r then r - 1 - s p else s p) t
  rcases det_neg hk (fun p q => ent D (if s p < r then r - 1 - s p else s p) (t q)) with e | e
  · rw [e]; exact this
  · rw [e]; exact Int.dvd_neg.2 this
theorem turned_turned (D : Mat) : turned (turned D) = D := by
  unfold turned negL
  rw [List.map_reverse, List.reverse_reverse, List.map_map]
  have : ((fun xs : List Int => xs.map fun x => -x) ∘ fun xs : List Int => xs.map fun x => -x) = id := by
    funext xs
    simp [Function.comp_def]
  rw [this, List.map_id]
theorem chg_turned (l : List Int) (r n : Nat) : Chg r n 6 (drawnE l r n) (turned (drawnE l r n)) := by
  have h := chg_start l r n
  refine ⟨turned_rect h.rect, fun i j => ?_, fun k c hk => ⟨fun hd => ?_, turned_dt hk h.rect⟩⟩
  · rw [turned_ent h.rect]
    have := h.bd (if i < r then r - 1 - i else i) j
    omega
  · have := turned_dt hk (turned_rect h.rect) hd
    rwa [turned_turned] at this
end Go.Proofs
namespace Go.Proofs
open Go.RowKit Go.Shelf Go.Proofs.Sm
def prodL : List Int → Int
  | [] => 1
  | x :: l => x * prodL l
theorem prodL_app (a b : List Int) : prodL (a ++ b) = prodL a * prodL b := by
  induction a with
  | nil => simp [prodL]
  | cons x a ih => simp only [List.cons_append, prodL, ih, Int.mul_assoc]
theorem prodL_pos {l : List Int} (h : ∀ x ∈ l, 1 ≤ x) : 1 ≤ prodL l := by
  induction l with
  | nil => exact Int.le_refl _
  | cons x l ih =>
    have h1 := h x (by simp)
    have h2 := ih fun y hy => h y (by simp [hy])
    unfold prodL
    have := Int.mul_le_mul h1 h2 (by omega) (by omega)
    omega
theorem prodL_filter (l : List Int) : prodL (l.filter fun x => !(x == 1)) = prodL l := by
  induction l with
  | nil => rfl
  | cons x l ih =>
    rw [List.filter_cons]
    by_cases h : x = 1
    · subst h
      simp only [beq_self_eq_true, Bool.not_true, Bool.false_eq_true, if_false, prodL, Int.one_mul, ih]
    · have : (!(x == 1)) = true := by simp [h]
      rw [this, if_pos rfl]
      simp only [prodL, ih]
theorem prodL_range (d : Nat → Int) : ∀ k, prodL ((List.range k).map d) = prodN d k
  | 0 => rfl
  | k + 1 => by rw [List.range_succ, List.map_append, prodL_app, prodL_range d k]; simp [prodL, prodN]
theorem prodL_take {t : List Int} (h : ∀ x ∈ t, 1 ≤ x) (i : Nat) : 1 ≤ prodL (t.take i) ∧ prodL (t.take i) ≤ prodL t := by
  have h1 := prodL_pos (l := t.take i) fun x hx => h x (List.mem_of_mem_take hx)
  have h2 := prodL_pos (l := t.drop i) fun x hx => h x (List.mem_of_mem_drop hx)
  refine ⟨h1, ?_⟩
  have e : prodL t = prodL (t.take i) * prodL (t.drop i) := by rw [← prodL_app, List.take_append_drop]
  rw [e]
  have := Int.mul_le_mul (Int.le_refl (prodL (t.take i))) h2 (by omega) (by omega)
  omega
/-- what SmithOrders looks at -/
structure OrdOk (n : Nat) (D : Mat) (t : List Int) (free : Int) : Prop where
  gr : GrE n D t free 0
  pos : ∀ x ∈ t, 1 ≤ x
  small : prodL t ≤ 31104
  len : t.length ≤ 4
  fbd : 0 ≤ free ∧ free ≤ 4
  det : -31104 ≤ detE n (ent D) ∧ detE n (ent D) ≤ 31104
  zero : detE n (ent D) = 0 ↔ 0 < free
  ord : detE n (ent D) ≠ 0 → prodL t = ((detE n (ent D)).natAbs : Int)
  back : GrE n (turned D) [] 0 5 ∨ GrE n (turned D) t free 0
theorem orders_ex (l : List Int) (n : Nat) (h1 : 1 ≤ n) (hn4 : n ≤ 4) : GrE n (drawnE l n n) [] 0 5 ∨ ∃ t free, OrdOk n (drawnE l n n) t free := by
  have hv := drawn_valid l n n
  have hl := drawnE_length l n n
  have hc := check_ok h1 (by omega) (by rw [hl]; omega) hv
  obtain ⟨o, ho⟩ := out_ex hv
  have e : ((n : Int)).toNat = n := Int.toNat_natCast n
  cases o with
  | none => exact .inl ⟨[], [], [], 5, .inr ⟨hc, .inl ⟨by rw [e]; exact ho, rfl, rfl, rfl, rfl⟩⟩, .inl ⟨by omega, rfl, rfl, rfl⟩⟩
  | some s =>
    right
    have hE : SmE n (drawnE l n n) (diagOf s) s.u s.v 0 := .inr ⟨hc, .inr ⟨s, by rw [e]; exact ho, rfl, rfl, rfl, rfl⟩⟩
    have he := out_end hv ho
    rw [hl] at he
    obtain ⟨hmin, hpb, hps, hpz, hdl4, hdf⟩ := min_prod hn4 ho
    have hdl := length_diagOf s
    have htn := he.tn
    have hpos : ∀ x ∈ diagOf s, 1 ≤ x := fun x hx => by
      obtain ⟨i, hi, rfl⟩ := List.mem_map.1 hx
      exact he.pos i (List.mem_range.1 hi)
    have hprod : prodL (diagOf s) = prodN (dia s) s.t := prodL_range (dia s) s.t
    have hdet := det_law hn4 hl hv ho
    have hb := det_bound (k := n) (f := ent (drawnE l n n)) fun i j => by have := (chg_start l n n).bd i j; omega
    have hb4 := detB4 hn4
    refine ⟨(diagOf s).filter fun x => !(x == 1), (n : Int) - (diagOf s).length, ⟨⟨_, _, _, 0, hE, .inr ⟨rfl, rfl, rfl, rfl⟩⟩, fun x hx => hpos x (List.mem_filter.1 hx).1, ?_, ?_, ?_, ?_, ?_, ?_, ?_⟩⟩
    · rw [prodL_filter, hprod]
      exact (hpb s.t (by omega)).2
    · exact Nat.le_trans (List.length_filter_le _ _) hdl4
    · rw [hdl]; omega
    · omega
    · rw [hdl]
      rcases Nat.lt_or_ge s.t n with h | h
      · have := prod_zero he h
        omega
      · have hst : s.t = n := by omega
        have := prod_pos he (k := n) (by omega)
        omega
    · intro hz
      rw [prodL_filter, hprod]
      rcases Nat.lt_or_ge s.t n with h | h
      · have := prod_zero he h
        omega
      · have hst : s.t = n := by omega
        rw [hst]; omega
    · rcases chg_end (chg_turned l n n) (by omega) hn4 h1 hn4 ho with h | ⟨u, v, h⟩
      · exact .inl ⟨_, _, _, 5, h, .inl ⟨by omega, rfl, rfl, rfl⟩⟩
      · exact .inr ⟨_, _, _, 0, h, .inr ⟨rfl, rfl, rfl, rfl⟩⟩
/-- the relators that SmithOrders makes, and what their sums are -/
def relsTo (D : Mat) (n i : Nat) : List (List Int) := (D.take i).map fun row => wordTo row n
def backTo (D : Mat) (n i : Nat) : List (List Int) := ((D.take i).map fun row => negL (wordTo row n)).reverse
theorem rels_sums {D : Mat} {r n : Nat} (h : Rect D r n) : (relsTo D n r).map (sumsE n) = D := by
  unfold relsTo
  rw [List.take_of_length_le (by rw [h.1]; exact Nat.le_refl _), List.map_map]
  conv => rhs; rw [← List.map_id D]
  exact List.map_congr_left fun x hx => sums_wordTo (h.2 x hx)
theorem back_sums {D : Mat} {r n : Nat} (h : Rect D r n) : (backTo D n r).map (sumsE n) = turned D := by
  unfold backTo turned
  rw [List.take_of_length_le (by rw [h.1]; exact Nat.le_refl _), List.map_reverse, List.map_map]
  congr 1
  refine List.map_congr_left fun x hx => ?_
  show sumsE n (negL (wordTo x n)) = negL x
  rw [sums_neg, sums_wordTo (h.2 x hx)]
end Go.Proofs
namespace Go.Proofs
open Go.RowKit Go.Shelf Go.Proofs.Sm
theorem info50p : ∃ i, Try.prog.info? 50 = some i ∧ i.zero = some (.slice none 0 0) ∧ i.size = 1 ∧ i.bytes = 24 := by
  have h : (Try.prog.info? 50).map (fun i => (i.zero, i.size, i.bytes)) = some (some (.slice none 0 0), 1, 24) := by kernel_rfl
  cases hq : Try.prog.info? 50 with
  | none => simp [hq] at h
  | some i => simp [hq] at h; exact ⟨i, rfl, h⟩
/-- a list of words of the call's own -/
def RowsAt (base : Nat) (w : World) (v : Value) (ws : List (List Int)) : Prop :=
  ∃ vs : List Value, w.ownsRow base 50 1 v ws.length vs ∧ ∀ i, i < ws.length → ∃ u, vs[i]? = some u ∧ u.oneCell' = true ∧ OwnI base w u (ws.getD i [])
section
variable {base : Nat} {w w' : World} {v : Value} {ws : List (List Int)}
theorem RowsAt.nil (base : Nat) (w : World) : RowsAt base w (.slice none 0 0) [] := ⟨[], World.ownsRow_nil _ _ _ _, fun _i hi => absurd hi (Nat.not_lt_zero _)⟩
theorem RowsAt.same (h : RowsAt base w v ws) (hv : ∀ r, v.ownBlock = some r → w'.heap[r]? = w.heap[r]?) (h3 : ∀ (r : Nat) (C : Array Value), w.heap[r]? = some (.cells C 3 (0, 0)) → w'.heap[r]? = w.heap[r]?) : RowsAt base w' v ws := by
  obtain ⟨vs, ho, hw⟩ := h
  refine ⟨vs, owns_keep ho hv, fun i hi => ?_⟩
  obtain ⟨u, h1, h2, h4⟩ := hw i hi
  exact ⟨u, h1, h2, owns_keep h4 fun r hr => by
    obtain ⟨-, C, hC⟩ := owns_block h4 r hr
    exact h3 r C hC⟩
theorem RowsAt.keep (h : RowsAt base w v ws) (hb : Below w.heap.size w w') : RowsAt base w' v ws :=
  h.same (fun r hr => by
    obtain ⟨vs, ho, -⟩ := h
    obtain ⟨-, C, hC⟩ := owns_block ho r hr
    exact hb.block r (Array.getElem?_eq_some_iff.1 hC).1) fun r C hC => hb.block r (Array.getElem?_eq_some_iff.1 hC).1
/-- another block, of type 50 or 49, may turn -/
theorem RowsAt.grown (h : RowsAt base w v ws) {g : Nat} {C : Array Value} {T : TypeId} (hT : T ≠ 3) (hg : w.heap[g]? = some (.cells C T (0, 0))) (hne : v.ownBlock ≠ some g) (hgr : w.grownBy w' (some g)) : RowsAt base w' v ws :=
  h.same (fun r hr => by
    obtain ⟨vs, ho, -⟩ := h
    obtain ⟨-, C, hC⟩ := owns_block ho r hr
    exact hgr.block r (Array.getElem?_eq_some_iff.1 hC).1 (fun e => hne (by rw [hr, e]))) fun r C' hC => hgr.block r (Array.getElem?_eq_some_iff.1 hC).1 (fun e => by
    have e2 := Option.some.inj e
    rw [e2, hg] at hC
    injection hC with h5
    injection h5 with _ h6 _
    exact hT h6)
theorem RowsAt.form (h : RowsAt base w v ws) : ∃ A c, v = .slice A ws.length c := by
  obtain ⟨vs, ho, -⟩ := h
  exact owns_form ho
/-- a word joins at the end -/
theorem RowsAt.push (h : RowsAt base w v ws) (hbw : base ≤ w.heap.size) {u : Value} {xs : List Int} (h1 : u.oneCell' = true) (hx : OwnI base w u xs) (hl : ws.length ≤ 1000000) :
    ∃ A' c' w', (Builtin.append_ #[47, 47] 47 #[v, .slice (some ⟨w.heap.size, 0, none⟩) 1 1]).run Try.prog (w.alloc (.cells #[u] 50)) = .ok (.slice A' (ws.length + 1) c') w' ∧ RowsAt base w' (.slice A' (ws.length + 1) c') (ws ++ [xs]) ∧ w.grownBy w' v.ownBlock ∧
      ((Value.slice A' (ws.length + 1) c').ownBlock = v.ownBlock ∨ ∃ r, (Value.slice A' (ws.length + 1) c').ownBlock = some r ∧ w.heap.size ≤ r) := by
  obtain ⟨vs, ho, hw⟩ := h
  obtain ⟨A', c', w', hr, ho', hgr, hwh⟩ := run_push (ty := 47) Try.underlying47 info50p rfl (by omega) w base v ws.length vs ho u h1 (by omega) hbw
  have hlv : vs.length = ws.length := by have := ho.1; omega
  have h3 : ∀ (r : Nat) (C : Array Value), w.heap[r]? = some (.cells C 3 (0, 0)) → w'.heap[r]? = w.heap[r]? := fun r C hC => hgr.block r (Array.getElem?_eq_some_iff.1 hC).1 (fun e => by
    obtain ⟨-, C', hC'⟩ := owns_block ho r e.symm
    rw [hC'] at hC
    injection hC with h5
    injection h5 with _ h6 _
    exact absurd h6 (by decide))
  have hkeep : ∀ u ys, OwnI base w u ys → OwnI base w' u ys := fun u ys h => owns_keep h fun r hr => by
    obtain ⟨-, C, hC⟩ := owns_block h r hr
    exact h3 r C hC
  refine ⟨A', c', w', hr, ⟨vs ++ [u], by simpa using ho', fun i hi => ?_⟩, hgr, hwh⟩
  rw [List.length_append] at hi
  rcases Nat.lt_or_ge i ws.length with hi' | hi'
  · obtain ⟨u', q1, q2, q3⟩ := hw i hi'
    refine ⟨u', by rw [List.getElem?_append_left (by omega)]; exact q1, q2, ?_⟩
    have : (ws ++ [xs]).getD i [] = ws.getD i [] := by simp [List.getD_eq_getElem?_getD, List.getElem?_append_left hi']
    rw [this]
    exact hkeep _ _ q3
  · have : i = ws.length := by simp at hi; omega
    subst this
    refine ⟨u, by rw [← hlv]; simp, h1, ?_⟩
    have : (ws ++ [xs]).getD ws.length [] = xs := by simp [List.getD_eq_getElem?_getD]
    rw [this]
    exact hkeep _ _ hx
end
end Go.Proofs
namespace Go.Proofs
open Go.RowKit Go.Shelf Go.Proofs.Sm
theorem lit_owns (w : World) (u : Value) : (w.alloc (.cells #[u] 50)).ownsRow w.heap.size 50 1 (.slice (some ⟨w.heap.size, 0, none⟩) 1 1) 1 [u] :=
  ⟨by simp, .inr ⟨w.heap.size, 1, #[u], rfl, Nat.le_refl _, heap_alloc_new w _, Nat.le_refl _, by simp [maxLen], by simp, by simp⟩⟩
theorem RowsAt.cons {base : Nat} {w : World} {v : Value} {ws : List (List Int)} (h : RowsAt base w v ws) (hbw : base ≤ w.heap.size) {u : Value} {xs : List Int} (h1 : u.oneCell' = true) (hx : OwnI base w u xs) (hl : ws.length ≤ 1000000) :
    ∃ A' c' w', (Builtin.append_ #[47, 47] 47 #[.slice (some ⟨w.heap.size, 0, none⟩) 1 1, v]).run Try.prog (w.alloc (.cells #[u] 50)) = .ok (.slice A' (ws.length + 1) c') w' ∧ RowsAt base w' (.slice A' (ws.length + 1) c') (xs :: ws) ∧ Below w.heap.size w w' ∧
      ∀ r, (Value.slice A' (ws.length + 1) c').ownBlock = some r → w.heap.size ≤ r := by
  obtain ⟨vs, ho, hw⟩ := h
  obtain ⟨i, hi, hz, hs, hby⟩ := info50p
  have hal : Below w.heap.size w (w.alloc (.cells #[u] 50)) := (Below.refl _ _).alloc (Nat.le_refl _) _
  have hlit := lit_owns w u
  have hlv : vs.length = ws.length := by have := ho.1; omega
  have hfin : ∀ (A' : Option Addr) (c' : Nat) (w' : World), w'.ownsRow w.heap.size 50 1 (.slice A' (ws.length + 1) c') (ws.length + 1) (u :: vs) → Below w.heap.size w w' → RowsAt base w' (.slice A' (ws.length + 1) c') (xs :: ws) ∧ Below w.heap.size w w' ∧ ∀ r, (Value.slice A' (ws.length + 1) c').ownBlock = some r → w.heap.size ≤ r := fun A' c' w' ho' hb => by
    refine ⟨⟨u :: vs, owns_base ho' hbw, fun j hj => ?_⟩, hb, fun r hr => (owns_block ho' r hr).1⟩
    cases j with
    | zero => exact ⟨u, rfl, h1, owns_below hx hb⟩
    | succ j =>
      obtain ⟨u', q1, q2, q3⟩ := hw j (by simp at hj; omega)
      exact ⟨u', q1, q2, owns_below q3 hb⟩
  obtain ⟨A, c, rfl⟩ := owns_form ho
  rcases ho.2 with ⟨e, e2⟩ | ⟨g, cap, cur, e, hbg, hC, hc1, hc2, hc3, hc4⟩
  · obtain rfl : ws = [] := List.length_eq_zero_iff.1 e2
    obtain rfl : vs = [] := List.length_eq_zero_iff.1 hlv
    obtain ⟨rfl, -, rfl⟩ := Value.slice.inj e
    have hr := run_append_nil2 (P := Try.prog) (w.alloc (.cells #[u] 50)) w.heap.size 47 47 50 i Try.underlying47 hi 0 _ _ _ hlit
    exact ⟨_, _, _, hr, hfin _ _ _ hlit hal⟩
  · obtain ⟨rfl, -, rfl⟩ := Value.slice.inj e
    have hgl : g < w.heap.size := (Array.getElem?_eq_some_iff.1 hC).1
    have hC1 : (w.alloc (.cells #[u] 50)).heap[g]? = some (.cells cur 50 (0, 0)) := (hal.block g hgl).trans hC
    obtain ⟨v', w', hr, hown, hgr, -, hwh⟩ := run_append_own_at (P := Try.prog) (w.alloc (.cells #[u] 50)) w.heap.size 47 47 50 i (.slice none 0 0) 1 24 Try.underlying47 hi hz hs hby rfl (by omega) _ 1 [u] hlit ⟨g, 0, none⟩ ws.length c vs (by omega)
      (fun j u' hj => by
        have hjl : j < vs.length := (List.getElem?_eq_some_iff.1 hj).1
        rw [Addr.add_lit, cell_of_row _ _ _ _ _ _ hC1]
        have h2 : (cur.toList.take (ws.length * 1))[j]? = vs[j]? := by rw [hc4]
        rw [List.getElem?_take, if_pos (by omega)] at h2
        simpa [hj] using h2)
      (fun u' hu' => by
        obtain ⟨j, hj, rfl⟩ := List.getElem_of_mem hu'
        obtain ⟨u2, q1, q2, -⟩ := hw j (by omega)
        rw [List.getElem?_eq_getElem hj] at q1
        rw [Option.some.inj q1]
        exact q2)
      (by simp [maxLen]; omega) (by omega) (by simp)
    obtain ⟨A', c', rfl⟩ := owns_form hown
    have hb : Below w.heap.size w w' := hal.grown hgr (by simp) fun r hr' => by
      have := Option.some.inj hr'
      show w.heap.size ≤ r
      rw [← this]; exact Nat.le_refl _
    rw [Nat.add_comm 1] at hown
    rw [Nat.add_comm 1] at hr
    exact ⟨A', c', w', hr, hfin A' c' w' hown hb⟩
theorem RowsAt.tab {base : Nat} {w : World} {v : Value} {ws : List (List Int)} (h : RowsAt base w v ws) (hf : ∀ x ∈ ws, Fits x) : Tab w v ws := by
  obtain ⟨vs, ho, hw⟩ := h
  refine ⟨vs, sl_of_owns ho, by have := ho.1; omega, fun i hi => ?_⟩
  obtain ⟨u, q1, -, q3⟩ := hw i hi
  exact ⟨u, q1, OwnI.ints q3 (hf _ (by rw [List.getD_eq_getElem?_getD, List.getElem?_eq_getElem hi]; exact List.getElem_mem hi))⟩
end Go.Proofs
