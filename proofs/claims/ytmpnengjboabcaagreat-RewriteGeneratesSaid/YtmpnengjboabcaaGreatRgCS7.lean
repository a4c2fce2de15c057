/- The system of a table in memory: its map of numbers and its list of pairs; The methods of the system: step, number, grows; (system).grows; coset.Reps and cayleyref18.Reps; rewrite.of. -/
import Derived.Test.YtmpnengjboabcaaGreatRgCS6
import Derived.Test.YtmpnengjboabcaaGreatRgCS1
import Derived.Test.YtmpnengjboabcaaGreatRgCS5
import Derived.Deep.MidRow
import Derived.Deep.RegionHeld3
namespace Go.Proofs
open Go.RowKit Go.Shelf Go.Proofs.Ct Go.Maps
def pkey (r g : Nat) : Value := .agg #[.int .i64 (r : Int), .int .i64 ((g + 1 : Nat) : Int)]
def Sml (r g : Nat) : Prop := r ≤ 1000000 ∧ g ≤ 1000000
theorem pkey_lit {r g : Nat} (h : Sml r g) : ∃ l, keyOf Tryz.prog 69 (pkey r g) = some l := key102 ⟨by omega, by have := h.1; omega⟩ ⟨by omega, by have := h.2; omega⟩
theorem pkey_inj {r g r' g' : Nat} {l : Lit} (h : keyOf Tryz.prog 69 (pkey r g) = some l) (h' : keyOf Tryz.prog 69 (pkey r' g') = some l) : r = r' ∧ g = g' := by
  have := law102.inj h h'
  unfold pkey at this
  injection this with h1
  have h2 : (r : Int) = r' := by have := congrArg (fun a : Array Value => a[0]?) h1; simpa using this
  have h3 : ((g + 1 : Nat) : Int) = ((g' + 1 : Nat) : Int) := by have := congrArg (fun a : Array Value => a[1]?) h1; simpa using this
  omega
def MapP (w : World) (b : Nat) (ps : List (Nat × Nat)) : Prop :=
  ∃ n D, n ≤ ps.length ∧ w.ownsMap (H := Unit) Tryz.prog 69 (plainElem Tryz.prog 3) b n D ∧
    ∀ r g l, Sml r g → keyOf Tryz.prog 69 (pkey r g) = some l → D.atKey l (.lit (.int .i64 0)) = .lit (.int .i64 (placeP ps r g))
theorem MapP.made (w : World) : MapP (w.alloc (.map #[] 0)) w.heap.size [] :=
  ⟨0, .map [], Nat.le_refl _, World.ownsMap_made _ _ _ _, fun r g l _ _ => by simp [placeP, DataW.atKey]⟩
theorem MapP.kept {w w' : World} {b : Nat} {ps : List (Nat × Nat)} {row : Option Nat} (h : MapP w b ps) (hg : w.grownBy w' row) (hne : row ≠ some b) : MapP w' b ps := by
  obtain ⟨n, D, h1, h2, h3⟩ := h
  exact ⟨n, D, h1, h2.kept hg (Ne.symm hne), h3⟩
theorem MapP.below {w w' : World} {b : Nat} {ps : List (Nat × Nat)} (h : MapP w b ps) (hb : Below w.heap.size w w') : MapP w' b ps :=
  h.kept (row := none) ⟨hb.os, hb.tape, hb.output, hb.size, fun k hk _ => hb.block k hk⟩ (by simp)
theorem MapP.isMapObj {w : World} {b : Nat} {ps : List (Nat × Nat)} (h : MapP w b ps) : ∃ es clock, w.heap[b]? = some (.map es clock) := by
  obtain ⟨n, D, h1, ⟨es, clock, hb, -⟩, h3⟩ := h
  exact ⟨es, clock, hb⟩
theorem MapP.look {w : World} {b : Nat} {ps : List (Nat × Nat)} (h : MapP w b ps) {r g : Nat} (hs : Sml r g) : (Instr.lookup 61 (.map (some b)) (pkey r g) false).run Tryz.prog w = .ok (.int .i64 (placeP ps r g)) w := by
  obtain ⟨n, D, h1, h2, h3⟩ := h
  obtain ⟨l, hl⟩ := pkey_lit hs
  obtain ⟨c, hr, hat, -⟩ := h2.lookup_int law102 Tryz.underlying61 Tryz.underlying3 (zero3 w) hl
  rw [h3 r g l hs hl] at hat
  have : placeP ps r g = c := by simpa using hat
  rw [this]
  exact hr
theorem placeP_new {ps : List (Nat × Nat)} {r g : Nat} (hn : (r, g) ∉ ps) : placeP (ps ++ [(r, g)]) r g = (ps.length : Int) + 1 := by
  unfold placeP
  rw [if_pos (by simp), List.idxOf_append, if_neg hn]
  simp
theorem placeP_old {ps : List (Nat × Nat)} {r g r' g' : Nat} (hne : ¬ (r' = r ∧ g' = g)) : placeP (ps ++ [(r, g)]) r' g' = placeP ps r' g' := by
  unfold placeP
  have hne' : (r', g') ≠ (r, g) := fun e => hne ⟨congrArg Prod.fst e, congrArg Prod.snd e⟩
  by_cases hm : (r', g') ∈ ps
  · rw [if_pos hm, if_pos (by simp [hm]), List.idxOf_append, if_pos hm]
  · rw [if_neg hm, if_neg (by simp [hm]; exact fun e h => hne ⟨e, h⟩)]
theorem MapP.put {w : World} {b : Nat} {ps : List (Nat × Nat)} (h : MapP w b ps) {r g : Nat} (hs : Sml r g) (hl : ps.length ≤ 1000000) (hn : (r, g) ∉ ps) :
    ∃ w', (Instr.mapUpdate 61 (.map (some b)) (pkey r g) (.int .i64 ((ps.length : Int) + 1))).run Tryz.prog w = .ok () w' ∧ MapP w' b (ps ++ [(r, g)]) ∧ w.grownBy w' (some b) := by
  obtain ⟨n, D, h1, h2, h3⟩ := h
  obtain ⟨l, hkl⟩ := pkey_lit hs
  obtain ⟨w', hr, ho, hg⟩ := h2.update (val := .int .i64 ((ps.length : Int) + 1)) law102 Tryz.underlying61 (by unfold maxLen; omega) hkl (plainElem_int Tryz.underlying3 (WalkArith.wf_i64 (by omega)))
  refine ⟨w', hr, ⟨n + 1, _, by simp; omega, ho, fun r' g' l' hs' hl' => ?_⟩, hg⟩
  by_cases e : r' = r ∧ g' = g
  · obtain ⟨rfl, rfl⟩ := e
    have : l' = l := by rw [hkl] at hl'; exact (Option.some.inj hl').symm
    subst this
    rw [Maps.atKey_put_same h2.isMap (law102.key hkl), placeP_new hn]
  · have hne : l' ≠ l := fun e' => e (by subst e'; exact pkey_inj hl' hkl)
    rw [Maps.atKey_put_other hne, h3 r' g' l' hs' hl', placeP_old e]
def pcells (ps : List (Nat × Nat)) : List Value := ps.flatMap fun p => [.int .i64 (p.1 : Int), .int .i64 ((p.2 + 1 : Nat) : Int)]
theorem pcells_snoc (ps : List (Nat × Nat)) (p : Nat × Nat) : pcells (ps ++ [p]) = pcells ps ++ [.int .i64 (p.1 : Int), .int .i64 ((p.2 + 1 : Nat) : Int)] := by simp [pcells]
theorem pcells_get : ∀ (ps : List (Nat × Nat)) (j : Nat), j < ps.length → (pcells ps)[j * 2]? = some (.int .i64 ((ps.getD j (0, 0)).1 : Int)) ∧ (pcells ps)[j * 2 + 1]? = some (.int .i64 (((ps.getD j (0, 0)).2 + 1 : Nat) : Int))
  | [], j, h => absurd h (by simp)
  | p :: ps, 0, _ => ⟨rfl, rfl⟩
  | p :: ps, j + 1, h => by
    have ih := pcells_get ps j (by simpa using h)
    have : pcells (p :: ps) = [.int .i64 (p.1 : Int), .int .i64 ((p.2 + 1 : Nat) : Int)] ++ pcells ps := rfl
    rw [this, show (j + 1) * 2 = j * 2 + 2 by omega, show j * 2 + 2 + 1 = (j * 2 + 1) + 2 by omega]
    constructor
    · rw [List.getElem?_append_right (by simp)]
      simpa using ih.1
    · rw [List.getElem?_append_right (by simp)]
      simpa using ih.2
abbrev OwnP (base : Nat) (w : World) (v : Value) (ps : List (Nat × Nat)) : Prop := w.ownsRow base 69 2 v ps.length (pcells ps)
theorem info102p : ∃ i, Tryz.prog.info? 69 = some i ∧ i.zero = some (.agg #[.int .i64 0, .int .i64 0]) ∧ i.size = 2 ∧ i.bytes = 16 := by
  have h : (Tryz.prog.info? 69).map (fun i => (i.zero, i.size, i.bytes)) = some (some (.agg #[.int .i64 0, .int .i64 0]), 2, 16) := by kernel_rfl
  cases hq : Tryz.prog.info? 69 with
  | none => simp [hq] at h
  | some i => simp [hq] at h; exact ⟨i, rfl, h⟩
theorem owns_form2 {w : World} {base e size n : Nat} {v : Value} {xs : List Value} (h : w.ownsRow base e size v n xs) : ∃ A c, v = .slice A n c := by
  rcases h.2 with ⟨rfl, rfl⟩ | ⟨g, cap, cur, rfl, -⟩
  · exact ⟨none, 0, rfl⟩
  · exact ⟨_, _, rfl⟩
theorem owns_block2 {w : World} {base e size n : Nat} {v : Value} {xs : List Value} (h : w.ownsRow base e size v n xs) : ∀ r, v.ownBlock = some r → base ≤ r ∧ ∃ C, w.heap[r]? = some (.cells C e (0, 0)) := fun r hr => by
  rcases h.2 with ⟨rfl, -⟩ | ⟨g, cap, cur, rfl, hb, hg, -⟩
  · cases hr
  · have : g = r := Option.some.inj hr
    subst this
    exact ⟨hb, cur, hg⟩
theorem push_pair (w : World) (base : Nat) (v : Value) (ps : List (Nat × Nat)) (h : OwnP base w v ps) (p : Nat × Nat) (hx : ps.length ≤ 1000000) (hb : base ≤ w.heap.size) :
    ∃ A' c' w', (Builtin.append_ #[62, 62] 62 #[v, .slice (some ⟨w.heap.size, 0, none⟩) 1 1]).run Tryz.prog (w.alloc (.cells #[.int .i64 (p.1 : Int), .int .i64 ((p.2 + 1 : Nat) : Int)] 69)) = .ok (.slice A' (ps.length + 1) c') w' ∧ OwnP base w' (.slice A' (ps.length + 1) c') (ps ++ [p]) ∧
      w.grownBy w' v.ownBlock := by
  obtain ⟨i, hi, hz, hs, hby⟩ := info102p
  have hal : Below w.heap.size w (w.alloc (.cells #[.int .i64 (p.1 : Int), .int .i64 ((p.2 + 1 : Nat) : Int)] 69)) := (Below.refl _ _).alloc (Nat.le_refl _) _
  obtain ⟨v', w', hr, hown', hg, -, hw⟩ := run_append_own_at (P := Tryz.prog) (w.alloc (.cells #[.int .i64 (p.1 : Int), .int .i64 ((p.2 + 1 : Nat) : Int)] 69)) base 62 62 69 i (.agg #[.int .i64 0, .int .i64 0]) 2 16 Tryz.underlying62 hi hz hs hby rfl (by omega) v ps.length (pcells ps) (owns_below h hal) ⟨w.heap.size, 0, none⟩ 1 1 [.int .i64 (p.1 : Int), .int .i64 ((p.2 + 1 : Nat) : Int)] rfl
    (fun j u hj => by
      rw [Addr.add_lit, cell_of_row _ _ _ _ _ _ (heap_alloc_new w _), Nat.zero_add]
      simpa using hj) (fun u hu => by
      have : u = .int .i64 (p.1 : Int) ∨ u = .int .i64 ((p.2 + 1 : Nat) : Int) := by simpa using hu
      rcases this with rfl | rfl <;> rfl) (by unfold maxLen; omega) (by omega) (by have := hal.size; omega)
  obtain ⟨A', c', rfl⟩ := owns_form2 hown'
  refine ⟨A', c', w', hr, ?_, ?_⟩
  · unfold OwnP
    rw [List.length_append, pcells_snoc]
    exact hown'
  · exact ⟨hg.os, hg.tape, hg.output, Nat.le_trans hal.size hg.size, fun k hk hne => (hg.block k (Nat.lt_of_lt_of_le hk hal.size) hne).trans (hal.block k hk)⟩
end Go.Proofs
namespace Go.Proofs
open Go.RowKit Go.Shelf Go.Proofs.Ct Go.Maps
def ColOf (x : Int) (c : Nat) : Prop := (0 < x ∧ 2 * x - 2 = (c : Int)) ∨ (x < 0 ∧ -2 * x - 1 = (c : Int))
set_option maxRecDepth 100000 in
theorem step70_any (w : World) (vt : Value) (A1 : Option Addr) (n1 c1 : Nat) (t : Tb) (r : Nat) (x : Int) (c : Nat) (ht : Tab w vt t) (hr : r < t.length) (hc : c < (t.row r).length) (hx : ColOf x c) (hb : -1000 ≤ x ∧ x ≤ 1000) :
    Calls Tryz.prog 25 #[.agg #[vt, .slice A1 n1 c1], .int .i64 (r : Int), .int .i64 x] w fun e w' => e = .returned (.int .i64 (t.at r c)) ∧ Below w.heap.size w w' := by
  obtain ⟨A0, c0, rfl, h1, h2, h3⟩ := ht.open_
  obtain ⟨bt, ot, rfl, h4⟩ := h3 (by omega)
  obtain ⟨u, hu, hI⟩ := h4 r hr
  have hI2 : IntsAt w u (t.row r) := hI
  obtain ⟨Au, cu, rfl, hu1, hu2, huc⟩ := hI2.open_
  obtain ⟨bu, ou, rfl, huc'⟩ := huc (by omega)
  have hcc := huc' c hc
  have hb1 : bt < w.heap.size := World.block_lt_of_cell? w _ hu
  have hb2 : bu < w.heap.size := World.block_lt_of_cell? w _ hcc
  have hbel : Below w.heap.size w (w.alloc (.cells #[.slice (some ⟨bt, ot, none⟩) t.length c0, .slice A1 n1 c1] 60)) := (Below.refl _ _).alloc (Nat.le_refl _) _
  have hu' := (hbel.cell (p := ⟨bt, ot + r, none⟩) hb1).trans hu
  have hcc' := (hbel.cell (p := ⟨bu, ou + c, none⟩) hb2).trans hcc
  have HB := Lib.hid hbel
  have hat : (t.row r).getD c 0 = t.at r c := rfl
  rw [hat] at hcc hcc'
  have hr0 : (0 : Int) ≤ (r : Int) := Int.natCast_nonneg _
  have hr1 : (r : Int) < (t.length : Int) := by omega
  have hc0 : (0 : Int) ≤ (c : Int) := Int.natCast_nonneg _
  have hc1' : (c : Int) < ((t.row r).length : Int) := by omega
  obtain ⟨hx1, hx2⟩ := hb
  clear h3 h4 hI hI2 huc huc' hat ht hbel
  generalize t.at r c = y at *
  rcases hx with ⟨hp, he⟩ | ⟨hp, he⟩
  · have hm : max (2 * x - 2) (-2 * x - 1) = (c : Int) := by omega
    have hle : (-2 * x - 1) ≤ (2 * x - 2) := by omega
    go_enter Tryz.func25, Tryz.ntmps25
    go_wp2_with fail
    go_ret
    exact ⟨rfl, HB.out⟩
  · have hm : max (2 * x - 2) (-2 * x - 1) = (c : Int) := by omega
    have hle : ¬ (-2 * x - 1) ≤ (2 * x - 2) := by omega
    go_enter Tryz.func25, Tryz.ntmps25
    go_wp2_with fail
    go_ret
    exact ⟨rfl, HB.out⟩
set_option maxRecDepth 100000 in
theorem number119_any (w : World) (bm : Nat) (A1 : Option Addr) (n1 c1 : Nat) (ps : List (Nat × Nat)) (r g : Nat) (hm : MapP w bm ps) (hs : Sml r g) :
    Calls Tryz.prog 72 #[.agg #[.map (some bm), .slice A1 n1 c1], .int .i64 (r : Int), .int .i64 ((g + 1 : Nat) : Int)] w fun e w' => e = .returned (.int .i64 (placeP ps r g)) ∧ Below w.heap.size w w' := by
  have hbel : Below w.heap.size w (w.alloc (.cells #[.map (some bm), .slice A1 n1 c1] 64)) := (Below.refl _ _).alloc (Nat.le_refl _) _
  have hl := (hm.below hbel).look hs
  unfold pkey at hl
  have HB := Lib.hid hbel
  have HL := Lib.hid hl
  clear hm hbel hl
  generalize placeP ps r g = y at *
  generalize ((g + 1 : Nat) : Int) = x at *
  go_enter Tryz.func72, Tryz.ntmps72
  go_wp2_with ((with_reducible refine wpList_sel 12 ?_); refine wpList_val rfl (r_look 61 (.tmp 8) (.tmp 11) rfl rfl rfl HL.out) ?_)
  go_ret
  exact ⟨rfl, HB.out⟩
end Go.Proofs
namespace Go.Proofs
open Go.RowKit Go.Shelf Go.Proofs.Ct Go.Maps
theorem IntsAt.take {w : World} {A : Option Addr} {n c : Nat} {xs : List Int} (h : IntsAt w (.slice A n c) xs) {k : Nat} (hk : k ≤ n) : IntsAt w (.slice A k c) (xs.take k) := by
  obtain ⟨⟨A', n', c', e, h2, h3, h4, h5⟩, hf⟩ := h
  obtain ⟨rfl, rfl, rfl⟩ := Value.slice.inj e
  have hl : n = xs.length := by simpa [ints] using h2
  refine ⟨⟨A, k, c, rfl, by simp [ints]; omega, by omega, h4, fun hn => ?_⟩, fun x hx => hf x (List.mem_of_mem_take hx)⟩
  obtain ⟨b, off, ha, hr⟩ := h5 (by omega)
  refine ⟨b, off, ha, fun j v hv => hr j v ?_⟩
  have : ints (xs.take k) = (ints xs).take k := by simp [ints, List.map_take]
  rw [this, List.getElem?_take] at hv
  split at hv
  · exact hv
  · cases hv
theorem snoc_iff {a b : List Int} {x : Int} : b = a ++ [x] ↔ b.length = a.length + 1 ∧ b.getD a.length 0 = x ∧ a = b.take a.length := by
  constructor
  · rintro rfl
    refine ⟨by simp, by simp [List.getD_eq_getElem?_getD], by simp⟩
  · rintro ⟨h1, h2, h3⟩
    have h4 : b.take (a.length + 1) = b := List.take_of_length_le (by omega)
    rw [← h4, List.take_succ_eq_append_getElem (by omega), ← h3]
    congr 1
    rw [List.getD_eq_getElem?_getD, List.getElem?_eq_getElem (by omega)] at h2
    simpa using h2
set_option maxRecDepth 100000 in
set_option maxHeartbeats 1000000 in
theorem grows114_any (w : World) (vr : Value) (A0 A1 : Option Addr) (n0 c0 n1 c1 bm : Nat) (R : List (List Int)) (r to : Nat) (x : Int) (hR : Tab w vr R) (hr : r < R.length) (hto : to < R.length) (hb : ∀ j, (R.getD j []).length ≤ 100000) (hx : -1000 ≤ x ∧ x ≤ 1000) :
    Calls Tryz.prog 52 #[.agg #[.slice A0 n0 c0, vr, .map (some bm), .slice A1 n1 c1], .int .i64 (r : Int), .int .i64 x, .int .i64 (to : Int)] w fun e w' => e = .returned (.bool (decide (R.getD to [] = R.getD r [] ++ [x]))) ∧ Below w.heap.size w w' := by
  obtain ⟨Ar, cr, rfl, h1, h2, h3⟩ := hR.open_
  obtain ⟨br, or', rfl, h4⟩ := h3 (by omega)
  obtain ⟨ua, hua, hIa⟩ := h4 r hr
  obtain ⟨ub, hub, hIb⟩ := h4 to hto
  obtain ⟨Aa, ca, rfl, ha1, ha2, hac⟩ := hIa.open_
  obtain ⟨Ab, cb, rfl, hb1, hb2, hbc⟩ := hIb.open_
  have hbel : Below w.heap.size w (w.alloc (.cells #[.slice A0 n0 c0, .slice (some ⟨br, or', none⟩) R.length cr, .map (some bm), .slice A1 n1 c1] 66)) := (Below.refl _ _).alloc (Nat.le_refl _) _
  have hblt : br < w.heap.size := World.block_lt_of_cell? w _ hua
  have hua' := (hbel.cell (p := ⟨br, or' + r, none⟩) hblt).trans hua
  have hub' := (hbel.cell (p := ⟨br, or' + to, none⟩) hblt).trans hub
  have hIa' := hIa.below hbel
  have hIb' := hIb.below hbel
  have HB := Lib.hid hbel
  have HSN := Lib.hid (@snoc_iff (R.getD r []) (R.getD to []) x)
  have hbr := hb r
  have hbt := hb to
  have hr0 : (0 : Int) ≤ (r : Int) := Int.natCast_nonneg _
  have hr1 : (r : Int) < (R.length : Int) := by omega
  have ht0 : (0 : Int) ≤ (to : Int) := Int.natCast_nonneg _
  have ht1 : (to : Int) < (R.length : Int) := by omega
  have HF : Hid (∀ k, -9223372036854775808 ≤ (R.getD to []).getD k 0 ∧ (R.getD to []).getD k 0 ≤ 9223372036854775807) := Lib.hid fun k => hIb.2.at_ k
  obtain ⟨hx1, hx2⟩ := hx
  clear h3 h4 hR hIa hIb hbel hac hb
  generalize R.getD r [] = a at *
  generalize R.getD to [] = b at *
  have ha0 : (0 : Int) ≤ (a.length : Int) := Int.natCast_nonneg _
  have ha3 : (a.length : Int) ≤ 100000 := by omega
  have hb3 : (b.length : Int) ≤ 100000 := by omega
  by_cases hl : b.length = a.length + 1
  · obtain ⟨bb, ob, rfl, hbc'⟩ := hbc (by omega)
    have hcx := hbc' a.length (by omega)
    have hcx' := (HB.out.cell (p := ⟨bb, ob + a.length, none⟩) (World.block_lt_of_cell? w _ hcx)).trans hcx
    have hlI : ((b.length : Int) == (a.length : Int) + 1) = true := by simp; omega
    have hlI2 : (a.length : Int) < (b.length : Int) := by omega
    have hcapn : a.length ≤ cb := by omega
    have hcapI : (a.length : Int) ≤ (cb : Int) := by omega
    have hF := HF.out a.length
    have HL := Lib.hid hl
    clear hbc hbc' hl
    by_cases hy : b.getD a.length 0 = x
    · have hyI : (b.getD a.length 0 == x) = true := by simpa using hy
      have HY := Lib.hid hy
      have HQ := Lib.hid (fun q => equal143_any ((w.alloc (.cells #[.slice A0 n0 c0, .slice (some ⟨br, or', none⟩) R.length cr, .map (some bm), .slice A1 n1 c1] 66)).drewN q) _ _ a (b.take a.length) (hIa'.drewN q) ((hIb'.take (by omega)).drewN q))
      have HDEC : Hid (decide (b = a ++ [x]) = decide (a = b.take a.length)) := Lib.hid (decide_eq_decide.2 ⟨fun h => (HSN.out.1 h).2.2, fun h => HSN.out.2 ⟨HL.out, HY.out, h⟩⟩)
      clear hy hIa' hIb'
      generalize b.getD a.length 0 = y at *
      generalize decide (a = b.take a.length) = res at *
      generalize decide (b = a ++ [x]) = res2 at *
      go_enter Tryz.func52, Tryz.ntmps52
      go_wp2_with fail
      go_quiet (fail)
      go_wp2_with (go_at_call 83; (refine (HQ.out _).mono ?_); rintro e w' ⟨rfl, q, rfl⟩)
      go_ret
      exact ⟨ret_bool HDEC.out.symm, below_drewN HB.out _⟩
    · have hyI : (b.getD a.length 0 == x) = false := by simpa using hy
      have HDEC : Hid (decide (b = a ++ [x]) = false) := Lib.hid (decide_eq_false fun h => hy (HSN.out.1 h).2.1)
      clear hy hIa' hIb'
      generalize b.getD a.length 0 = y at *
      generalize decide (b = a ++ [x]) = res2 at *
      go_enter Tryz.func52, Tryz.ntmps52
      go_wp2_with fail
      go_quiet (fail)
      go_wp2_with fail
      go_ret
      exact ⟨ret_bool HDEC.out.symm, below_drewN HB.out _⟩
  · have hlI : ((b.length : Int) == (a.length : Int) + 1) = false := by simp; omega
    have HDEC : Hid (decide (b = a ++ [x]) = false) := Lib.hid (decide_eq_false fun h => hl (HSN.out.1 h).1)
    clear hl hIa' hIb'
    generalize decide (b = a ++ [x]) = res2 at *
    go_enter Tryz.func52, Tryz.ntmps52
    go_wp2_with fail
    go_quiet (fail)
    go_wp2_with fail
    go_ret
    exact ⟨ret_bool HDEC.out.symm, below_drewN HB.out _⟩
end Go.Proofs
namespace Go.Proofs
open Go.RowKit Go.Shelf Go.Proofs.Ct
def RepsPost (g : Int) (t : Tb) (w : World) (e : Ending) (w' : World) : Prop := (∃ u, e = .returned (.tuple #[u, .int .i64 (repsE g t).2]) ∧ TabB w.heap.size w' u (repsE g t).1) ∧ Below w.heap.size w w'
theorem letter_bd {c : Nat} (h : c ≤ 1000) : -1000000 ≤ letter c ∧ letter c ≤ 1000000 := by
  unfold letter
  split <;> omega
theorem fits_snoc {x : List Int} {z : Int} (h : Fits x) (hz : -9223372036854775808 ≤ z ∧ z ≤ 9223372036854775807) : Fits (x ++ [z]) := fun y hy => by
  rcases List.mem_append.1 hy with h' | h'
  · exact h y h'
  · have : y = z := by simpa using h'
    rw [this]; exact hz
theorem OutSt.first {w w2 : World} (hB : Below w.heap.size w w2) :
    OutSt 39 (fun k => k = w2.heap.size) w ((w2.alloc (.cells #[] 3)).alloc (.cells #[.slice (some ⟨w2.heap.size, 0, none⟩) 0 0] 39)) (.slice (some ⟨w2.heap.size + 1, 0, none⟩) 1 1) [[]] := by
  have hb := allocs_below [.cells #[] 3, .cells #[.slice (some ⟨w2.heap.size, 0, none⟩) 0 0] 39] w2 w2.heap.size (Nat.le_refl _)
  have e1 := allocs_get [.cells #[] 3, .cells #[.slice (some ⟨w2.heap.size, 0, none⟩) 0 0] 39] w2 0 _ rfl
  have e2 := allocs_get [.cells #[] 3, .cells #[.slice (some ⟨w2.heap.size, 0, none⟩) 0 0] 39] w2 1 _ rfl
  have h1 := hB.size
  refine ⟨hB.trans (hb.mono h1), ⟨[.slice (some ⟨w2.heap.size, 0, none⟩) 0 0], ⟨rfl, .inr ⟨w2.heap.size + 1, 1, _, rfl, by omega, e2, Nat.le_refl _, by simp [maxLen], rfl, rfl⟩⟩, rfl, fun j hj => ?_⟩, fun k hk => ?_⟩
  · obtain rfl : j = 0 := by simpa using hj
    refine ⟨_, rfl, fun w' _ => ⟨⟨_, 0, 0, rfl, rfl, Nat.le_refl _, by simp, fun h => absurd h (by omega)⟩, fun x hx => by cases hx⟩⟩
  · subst hk
    refine ⟨h1, by simp; omega, _, e1⟩
set_option maxRecDepth 100000 in
set_option maxHeartbeats 1000000 in
theorem reps50_bad (w : World) (v : Value) (g : Int) (t : Tb) (ht : Tab w v t) (hb : (check g t).1 ≠ 0) : Calls Tryz.prog 51 #[.int .i64 g, v] w (RepsPost g t w) := by
  have HC := Lib.hid (check43_any w v g t ht)
  obtain ⟨A, c, rfl, hc1, hc2, hc⟩ := ht.open_
  clear hc ht
  have HE : Hid (repsE g t = ([], (check g t).1)) := Lib.hid (by unfold repsE; rw [if_pos hb])
  have d1 : ((check g t).1 != 0) = true := by simpa using hb
  have HC' : Hid (Calls Tryz.prog 29 #[.int .i64 g, .slice A t.length c] w fun e w' => (∃ y, e = .returned (.tuple #[.int .i64 (check g t).1, .int .i64 y])) ∧ Below w.heap.size w w') :=
    Lib.hid (HC.out.mono fun e w' ⟨h2, h3⟩ => ⟨⟨_, h2⟩, h3⟩)
  clear HC
  generalize (check g t).1 = x at *
  clear hb
  go_enter Tryz.func51, Tryz.ntmps51
  go_wp2_with (go_at_call 29; (refine HC'.out.mono ?_); rintro e w' ⟨⟨y, rfl⟩, hb⟩; have HB := Lib.hid hb; clear hb)
  go_ret2
  exact ⟨⟨.slice none 0 0, ret_of2 rfl (by rw [HE.out]), by rw [HE.out]; exact TabB.nil⟩, HB.out⟩
set_option maxRecDepth 100000 in
set_option maxHeartbeats 2000000 in
theorem reps50_good (w : World) (v : Value) (g : Nat) (t : Tb) (ht : Tab w v t) (hg : TGood g t) : Calls Tryz.prog 51 #[.int .i64 g, v] w (RepsPost g t w) := by
  have hck := check_of_good hg
  have hn1 := hg.n1
  have HC : Hid (Calls Tryz.prog 29 #[.int .i64 (g : Int), v] w fun e w' => e = .returned (.tuple #[.int .i64 0, .int .i64 (-1)]) ∧ Below w.heap.size w w') :=
    Lib.hid ((check43_any w v g t ht).mono fun e w' ⟨h2, h3⟩ => by rw [hck] at h2; exact ⟨h2, h3⟩)
  have HST : Hid (∀ w', Below w.heap.size w w' → Calls Tryz.prog 37 #[.int .i64 (g : Int), v, .int .i64 0] w' (StdPost g t 0 w')) := Lib.hid fun w' hb => std48_good w' v g t 0 (kept_tab.below ht hb) hg (by omega) (by omega)
  have HE1 : Hid (std t 0 ≠ some t → repsE g t = ([], 13)) := Lib.hid fun h => by unfold repsE; rw [hck, if_neg (by simp), if_neg h]
  have HE2 : Hid (std t 0 = some t → repsE g t = (reps t, 0)) := Lib.hid fun h => by unfold repsE; rw [hck, if_neg (by simp), if_pos h]
  have HS1 : Hid (std t 0 = none → stdE g t 0 = ([], 13)) := Lib.hid fun h => by unfold stdE; rw [hck, if_neg (by simp), if_neg (by omega), h]
  have HS2 : Hid (∀ s, std t 0 = some s → stdE g t 0 = (s, 0)) := Lib.hid fun s h => by unfold stdE; rw [hck, if_neg (by simp), if_neg (by omega), h]
  have HSM : Hid (∀ w' u s, Tab w' u s → Below w.heap.size w w' → Calls Tryz.prog 81 #[u, v] w' fun e w'' => e = .returned (.bool (decide (s = t))) ∧ ∃ q, w'' = w'.drewN q) := Lib.hid fun w' u s hu hb => same109_any w' u v s t hu (kept_tab.below ht hb)
  have HTB := Lib.hid ht
  obtain ⟨A, c, rfl, hc1, hc2, hc⟩ := ht.open_
  have hn2 := hg.n2
  obtain ⟨bt, ot, rfl, hcell⟩ := hc (by omega)
  have HT := Lib.hid hcell
  have HG := Lib.hid hg
  have hg16 := hg.g16
  have hg16' : (g : Int) ≤ 16 := by omega
  have hg0 : (0 : Int) ≤ (g : Int) := Int.natCast_nonneg _
  have hn0 : (0 : Int) ≤ (t.length : Int) := Int.natCast_nonneg _
  clear hcell hc ht hck hg
  rcases hs : std t 0 with _ | s
  · have hSE := HS1.out hs
    have HST' : Hid (∀ w', Below w.heap.size w w' → Calls Tryz.prog 37 #[.int .i64 (g : Int), .slice (some ⟨bt, ot, none⟩) t.length c, .int .i64 0] w' fun e w'' => (∃ u, e = .returned (.tuple #[u, .int .i64 13])) ∧ Below w'.heap.size w' w'') := Lib.hid fun w' hb => (HST.out w' hb).mono fun e w'' ⟨⟨u, h1, h2⟩, h3⟩ => by
      rw [hSE] at h1
      exact ⟨⟨u, h1⟩, h3⟩
    have HZ := Lib.hid (HE1.out (by rw [hs]; simp))
    clear hs hSE
    go_enter Tryz.func51, Tryz.ntmps51
    go_wp2_with (first
      | (go_at_call 29; (refine HC.out.mono ?_); rintro e w1 ⟨rfl, hb⟩; have HB1 := Lib.hid hb; clear hb)
      | (go_at_call 37; (refine (HST'.out _ HB1.out).mono ?_); rintro e w2 ⟨⟨u, rfl⟩, hb⟩; have HB2 := Lib.hid (HB1.out.trans (hb.mono HB1.out.size)); clear hb))
    go_ret2
    exact ⟨⟨.slice none 0 0, ret_of2 rfl (by rw [HZ.out]), by rw [HZ.out]; exact TabB.nil⟩, HB2.out⟩
  · have hSE := HS2.out s hs
    have HST' : Hid (∀ w', Below w.heap.size w w' → Calls Tryz.prog 37 #[.int .i64 (g : Int), .slice (some ⟨bt, ot, none⟩) t.length c, .int .i64 0] w' fun e w'' => (∃ u, e = .returned (.tuple #[u, .int .i64 0]) ∧ Hid (Tab w'' u s)) ∧ Below w'.heap.size w' w'') := Lib.hid fun w' hb => (HST.out w' hb).mono fun e w'' ⟨⟨u, h1, h2⟩, h3⟩ => by
      rw [hSE] at h1 h2
      exact ⟨⟨u, h1, Lib.hid h2⟩, h3⟩
    clear HST hSE
    by_cases hst : s = t
    · subst hst
      have HZ := Lib.hid (HE2.out hs)
      have HSTD := Lib.hid (std_iff hs)
      have HSM' : Hid (∀ w' u, Tab w' u s → Below w.heap.size w w' → Calls Tryz.prog 81 #[u, .slice (some ⟨bt, ot, none⟩) s.length c] w' fun e w'' => e = .returned (.bool true) ∧ ∃ q, w'' = w'.drewN q) := Lib.hid fun w' u hu hb => by
        have := HSM.out w' u s hu hb
        rwa [decide_eq_true rfl] at this
      clear hs HSM
      go_enter Tryz.func51, Tryz.ntmps51
      go_wp2_with (first
        | (go_at_call 29; (refine HC.out.mono ?_); rintro e w1 ⟨rfl, hb⟩; have HB1 := Lib.hid hb; clear hb)
        | (go_at_call 37; (refine (HST'.out _ HB1.out).mono ?_); rintro e w2 ⟨⟨u, rfl, HU⟩, hb⟩; have HB2 := Lib.hid (HB1.out.trans (hb.mono HB1.out.size)); clear hb)
        | (go_at_call 81; (refine (HSM'.out _ _ HU.out HB2.out).mono ?_); rintro e w3 ⟨rfl, q, rfl⟩))
      have hot := OutSt.first (below_drewN HB2.out q)
      have HOT := Lib.hid hot
      clear hot
      go_loopw [10, 11] (fun so i wr => ∃ k m : Nat, i = .int .i64 k ∧ k ≤ s.length ∧ Hid (m = (foldTo (repRow s) k [[]]).length) ∧ ∃ F A c, so = .slice A m c ∧ Hid (OutSt 39 F w wr so (foldTo (repRow s) k [[]]))) (fun _ i _ => s.length - (intOf i).toNat)
      case atStart => exact ⟨0, 1, rfl, by omega, Lib.hid rfl, _, _, _, rfl, HOT⟩
      case round =>
        clear HOT
        obtain ⟨k, m, rfl, hk, HM, F, A2, c2, rfl, HST⟩ := hrel
        have hk0 : (0 : Int) ≤ (k : Int) := Int.natCast_nonneg _
        by_cases hlt : k < s.length
        · have hlt' : (k : Int) < (s.length : Int) := by omega
          obtain ⟨m0, hm0, ho0, hR0⟩ := rep_at HG.out HSTD.out k hk
          have hrow := rep_row HG.out HSTD.out hlt (hm0 hlt) ho0 hR0
          have HROW := Lib.hid hrow
          have HM0 := Lib.hid (hm0 hlt)
          have hrl := HG.out.len k hlt
          have HRL := Lib.hid hrl
          obtain ⟨u, hu, hI⟩ := HT.out k hlt
          have HU2 := Lib.hid hu
          have hI2 : IntsAt w u (s.row k) := hI
          obtain ⟨Au, cu, rfl, hu1, hu2, huc⟩ := hI2.open_
          obtain ⟨bu, ou, rfl, huc'⟩ := huc (by have := HG.out.g1; omega)
          have HUC := Lib.hid huc'
          have hu3 := (HST.out.below.cell (p := ⟨bt, ot + k, none⟩) (World.block_lt_of_cell? w _ HU2.out)).trans HU2.out
          clear hu hI hI2 huc huc' hrl hrow ho0 hR0 hm0
          go_wp2_with fail
          go_loopw [10, 50] (fun so i wr => ∃ j m : Nat, i = .int .i64 j ∧ j ≤ (s.row k).length ∧ Hid (m = (foldTo (repCol s k) j (foldTo (repRow s) k [[]])).length) ∧ ∃ F A c, so = .slice A m c ∧ Hid (OutSt 39 F w wr so (foldTo (repCol s k) j (foldTo (repRow s) k [[]])))) (fun _ i _ => (s.row k).length - (intOf i).toNat)
          case atStart => exact ⟨0, m, rfl, by omega, HM, _, _, _, rfl, HST⟩
          case round =>
            clear hu3 HST HM
            obtain ⟨j, m, rfl, hj, HM, F, A2, c2, rfl, HS⟩ := hrel
            have hj0 : (0 : Int) ≤ (j : Int) := Int.natCast_nonneg _
            by_cases hjl : j < (s.row k).length
            · have hjl3 : (j : Int) < (((s.row k).length : Int)) := by omega
              have hjl2 : j < (s.row k).length := by have := HRL.out; omega
              have hjl4 : (j : Int) < ((s.row k).length : Int) := by omega
              have hj32 : j < 2 * g := by have := HRL.out; omega
              have hcs := HUC.out j hjl2
              have hcs' := (HS.out.below.cell (p := ⟨bu, ou + j, none⟩) (World.block_lt_of_cell? w _ hcs)).trans hcs
              have hu3 := (HS.out.below.cell (p := ⟨bt, ot + k, none⟩) (World.block_lt_of_cell? w _ HU2.out)).trans HU2.out
              obtain ⟨m1, hm1, hR1⟩ := HROW.out j (by omega)
              have hbd := HG.out.bd k hlt j hj32
              have hml : m = m1 := by rw [HM.out]; exact hR1.ol
              have hmn : m ≤ s.length := by rw [hml]; exact hR1.le
              have hkm : k < m := by have := HM0.out; omega
              have hwl := hR1.wl k (by omega)
              have hat : (s.row k).getD j 0 = s.at k j := rfl
              rw [hat] at hcs'
              have HSJ0 : Hid (s.at k j = ((foldTo (repCol s k) j (foldTo (repRow s) k [[]])).length : Int) → foldTo (repCol s k) (j + 1) (foldTo (repRow s) k [[]]) = foldTo (repCol s k) j (foldTo (repRow s) k [[]]) ++ [(foldTo (repCol s k) j (foldTo (repRow s) k [[]])).getD k [] ++ [letter j]]) := Lib.hid fun h => if_pos h
              have HSJ1 : Hid (s.at k j ≠ ((foldTo (repCol s k) j (foldTo (repRow s) k [[]])).length : Int) → foldTo (repCol s k) (j + 1) (foldTo (repRow s) k [[]]) = foldTo (repCol s k) j (foldTo (repRow s) k [[]])) := Lib.hid fun h => if_neg h
              rw [← HM.out] at HSJ0 HSJ1
              clear hcs hat hR1 hm1 hml
              generalize foldTo (repCol s k) j (foldTo (repRow s) k [[]]) = oj at *
              generalize s.at k j = x at *
              have hI1 : -9223372036854775808 ≤ x := by omega
              have hI3 : x ≤ 9223372036854775807 := by omega
              clear hbd
              have hm64 : (m : Int) ≤ 20000 := by omega
              by_cases hx : x = (m : Int)
              · have d5 : (x == (m : Int)) = true := by simpa using hx
                have HSJ := Lib.hid (HSJ0.out hx)
                have HM8 : Hid (m + 1 = (foldTo (repCol s k) (j + 1) (foldTo (repRow s) k [[]])).length) := Lib.hid (by rw [HSJ.out, List.length_append, HM.out]; rfl)
                obtain ⟨A5, c5, e5, ht1, ht2, ht3⟩ := HS.out.out.tab.open_
                obtain ⟨rfl, -, rfl⟩ := Value.slice.inj e5
                obtain ⟨b5, o5, rfl, hoc⟩ := ht3 (by have := HM.out; omega)
                obtain ⟨u5, hu5, hI5⟩ := hoc k (by have := HM.out; omega)
                have hkm' : (k : Int) < (m : Int) := by omega
                have HF := Lib.hid hI5.2
                have HLB : Hid (-9223372036854775808 ≤ letter j ∧ letter j ≤ 9223372036854775807) := Lib.hid (by have := letter_bd (c := j) (by omega); omega)
                clear hx hoc ht3 e5
                (
                  have HCL := Lib.hid (clone71_any wr u5 (oj.getD k []) hI5 (by omega))
                  clear hI5
                  go_wp2_with (first
                    | (go_at_call 27; (refine HCL.out.mono ?_); rintro e w5 ⟨A7, c7, rfl, ho, hb⟩
                       obtain ⟨A8, c8, w6, hr6, hS6⟩ := (HS.out.with_row hb ho).add (by decide) 39 Tryz.underlying39 (letter j) (by omega)
                       obtain ⟨A9, c9, w7, hr7, hS7⟩ := hS6.done (by decide) Tryz.underlying24 info25p (fits_snoc HF.out HLB.out) (by have := HM.out; omega)
                       rw [← HM.out] at hr7 hS7
                       have HR6 := Lib.hid hr6
                       have HR7 := Lib.hid hr7
                       rw [← HSJ.out] at hS7
                       have HS7 := Lib.hid hS7
                       clear ho hb hr6 hr7 hS6 hS7)
                    | (go_at_call 82; (refine (letter110_any _ j (by omega)).mono ?_); rintro e w8 ⟨rfl, rfl⟩)
                    | ((with_reducible refine wpList_sel 68 ?_); refine wpList_val rfl (r_app (.tmp 64) (.tmp 67) 39 rfl rfl rfl HR6.out) ?_)
                    | ((with_reducible refine wpList_sel 70 ?_); refine wpList_val rfl (r_app (.tmp 59) (.tmp 69) 24 rfl rfl rfl HR7.out) ?_))
                  go_roundw
                  case rel => exact ⟨j + 1, m + 1, by go_num, by omega, HM8, _, _, _, rfl, HS7⟩
                  case measure => simp [intOf]; omega
                )
              · have d5 : (x == (m : Int)) = false := by simpa using hx
                have HSJ := Lib.hid (HSJ1.out hx)
                rw [← HSJ.out] at HS HM
                clear hx
                go_wp2_with fail
                go_roundw
                case rel => exact ⟨j + 1, m, by go_num, by omega, HM, _, _, _, rfl, HS⟩
                case measure => simp [intOf]; omega
            · obtain rfl : j = (s.row k).length := by omega
              have he : foldTo (repRow s) (k + 1) [[]] = foldTo (repCol s k) ((s.row k).length) (foldTo (repRow s) k [[]]) := rfl
              rw [← he] at HS HM
              clear he
              go_wp2_with fail
              go_roundw
              case rel => exact ⟨k + 1, m, by go_num, by omega, HM, _, _, _, rfl, HS⟩
              case measure => simp [intOf]; omega
        · obtain rfl : k = s.length := by omega
          have HT2 := Lib.hid HST.out.tabB
          have HBW := Lib.hid HST.out.below
          go_wp2_with fail
          go_ret2
          exact ⟨⟨_, ret_of2 rfl (by rw [HZ.out]), by rw [HZ.out]; exact HT2.out⟩, HBW.out⟩
    · have HZ := Lib.hid (HE1.out (by rw [hs]; simpa using hst))
      rw [hs] at HE2
      have HSM' : Hid (∀ w' u, Tab w' u s → Below w.heap.size w w' → Calls Tryz.prog 81 #[u, .slice (some ⟨bt, ot, none⟩) t.length c] w' fun e w'' => e = .returned (.bool false) ∧ ∃ q, w'' = w'.drewN q) := Lib.hid fun w' u hu hb => by
        have := HSM.out w' u s hu hb
        rwa [decide_eq_false hst] at this
      clear hs hst HSM
      go_enter Tryz.func51, Tryz.ntmps51
      go_wp2_with (first
        | (go_at_call 29; (refine HC.out.mono ?_); rintro e w1 ⟨rfl, hb⟩; have HB1 := Lib.hid hb; clear hb)
        | (go_at_call 37; (refine (HST'.out _ HB1.out).mono ?_); rintro e w2 ⟨⟨u, rfl, HU⟩, hb⟩; have HB2 := Lib.hid (HB1.out.trans (hb.mono HB1.out.size)); clear hb)
        | (go_at_call 81; (refine (HSM'.out _ _ HU.out HB2.out).mono ?_); rintro e w3 ⟨rfl, q, rfl⟩))
      go_ret2
      exact ⟨⟨.slice none 0 0, ret_of2 rfl (by rw [HZ.out]), by rw [HZ.out]; exact TabB.nil⟩, below_drewN HB2.out q⟩
end Go.Proofs
namespace Go.Proofs
open Go.RowKit Go.Shelf Go.Proofs.Ct Go.Maps
structure SysAt (w : World) (vt vr : Value) (bm : Nat) (vl : Value) (t : Tb) (R : List (List Int)) (ps : List (Nat × Nat)) : Prop where
  tab : Tab w vt t
  reps : Tab w vr R
  map : MapP w bm ps
  list : ∃ base, OwnP base w vl ps
theorem SysAt.below {w w' : World} {vt vr : Value} {bm : Nat} {vl : Value} {t : Tb} {R : List (List Int)} {ps : List (Nat × Nat)} (h : SysAt w vt vr bm vl t R ps) (hb : Below w.heap.size w w') : SysAt w' vt vr bm vl t R ps :=
  ⟨kept_tab.below h.tab hb, kept_tab.below h.reps hb, h.map.below hb, let ⟨base, hl⟩ := h.list; ⟨base, owns_below hl hb⟩⟩
def zero95 : Array Value := #[.slice none 0 0, .slice none 0 0, .map none, .slice none 0 0]
theorem build95z (w : World) : (Instr.build 66 #[]).run Tryz.prog w = .ok (.agg zero95) w := by kernel_rfl
theorem alloc95 (w : World) : (Instr.alloc 66 true (.tuple #[])).run Tryz.prog w = .ok (.pointer (some ⟨w.heap.size, 0, none⟩)) (w.alloc (.cells zero95 66)) := by kernel_rfl
theorem info95s : (Tryz.prog.info? 66).map (·.size) = some 4 := by kernel_rfl
section
variable {o : Oper} {a : Act} {w w' : World} {n : Nat} {v : Value}
theorem r_store95 (x y : Operand) (ho : o.op = .store 66 x y) (g : Nat) (old c' : Array Value) (hx : a.eval x = .pointer (some ⟨g, 0, none⟩)) (hy : a.eval y = .agg c') (hg : w.heap[g]? = some (.cells old 66 (0, 0)))
    (hi : c'.size = 4) (hoo : old.size = 4) (h1 : c'.all (·.oneCell') = true) : (execOp a.eval o).run Tryz.prog w = .ok .skip (w.setRow g c') := by
  unfold execOp
  simp only [ho, hx, hy, Instr.storeAt, Instr.sureAddr, Sem.run_bind, Sem.run_pure, Result.andThen_ok, run_storeVar_row w g 66 66 old c' hg (by rw [hi]; exact info95s) (by rw [hi, hoo]) h1]
theorem r_build95 (ho : o.op = .build 66 #[]) : (execOp a.eval o).run Tryz.prog w = .ok (.value (.agg zero95)) w := by
  have hb := build95z w
  unfold execOp
  simp only [ho, List.map_toArray, List.map_nil, Sem.run_bind, hb, Result.andThen_ok]
  rfl
theorem r_alloc95 (ho : o.op = .alloc 66) : (execOp a.eval o).run Tryz.prog w = .ok (.value (.pointer (some ⟨w.heap.size, 0, none⟩))) (w.alloc (.cells zero95 66)) := by
  have hb := alloc95 w
  unfold execOp
  simp only [ho, Sem.run_bind, hb, Result.andThen_ok]
  rfl
theorem r_load95 (x : Operand) (b : Nat) (v0 v1 v2 v3 : Value) (ho : o.op = .load 66 x) (hx : a.eval x = .pointer (some ⟨b, 0, none⟩)) (hc : w.heap[b]? = some (.cells #[v0, v1, v2, v3] 66 (0, 0))) : (execOp a.eval o).run Tryz.prog w = .ok (.value (.agg #[v0, v1, v2, v3])) w := by
  have hr : w.rangeAt b 0 [v0, v1, v2, v3] := fun j v hj => by rw [cell_of_row _ _ _ _ _ _ hc, Nat.zero_add]; simpa using hj
  unfold execOp
  simp only [ho, hx, Sem.run_bind, run_loadAt_mid (P := Tryz.prog) w b 0 66 [v0, v1, v2, v3] _ hr Tryz.underlying66 rfl (by kernel_rfl), Result.andThen_ok]
  rfl
theorem r_move (x : Operand) (ho : o.op = .move x) (hx : a.eval x = v) : (execOp a.eval o).run Tryz.prog w = .ok (.value v) w := by
  unfold execOp
  simp only [ho, hx]
  rfl
end
theorem results_95_tmp {fn : Func} {p q : Tmp} (h : fn.results = #[.cell p 66, .tmp q]) (tmps : Array Value) (w : World) (g : Nat) (cs : Array Value) (u : Value)
    (hp : tmps.getD p undef = .pointer (some ⟨g, 0, none⟩)) (hq : tmps.getD q undef = u) (hg : w.heap[g]? = some (.cells cs 66 (0, 0))) (hs : cs.size = 4) :
    (results fn tmps).run Tryz.prog w = .ok (.tuple #[.agg cs, u]) w := by
  have hp' : tmps[p]?.getD undef = .pointer (some ⟨g, 0, none⟩) := by simpa using hp
  have hq' : tmps[q]?.getD undef = u := by simpa using hq
  simp [results, h, hp', hq', asAddr, run_loadVar_row w g 66 66 cs (0, 0) _ hg Tryz.underlying66 rfl (by rw [hs]; exact info95s)]
theorem zero95_one : zero95.all (·.oneCell') = true := by simp [zero95, Value.oneCell']
theorem repsE_good {g : Int} {t : Tb} (h : (repsE g t).2 = 0) : ∃ gn : Nat, g = gn ∧ TGood gn t ∧ std t 0 = some t ∧ repsE g t = (reps t, 0) := by
  unfold repsE at h ⊢
  by_cases h1 : (check g t).1 ≠ 0
  · rw [if_pos h1] at h
    exact absurd h h1
  · rw [if_neg h1] at h ⊢
    by_cases h2 : std t 0 = some t
    · rw [if_pos h2]
      obtain ⟨h3, h4, -⟩ := check_good (Decidable.not_not.1 h1)
      exact ⟨g.toNat, by omega, h4, h2, rfl⟩
    · rw [if_neg h2] at h
      exact absurd h (by simp)
theorem reps50_any (w : World) (v : Value) (g : Int) (t : Tb) (ht : Tab w v t) : Calls Tryz.prog 51 #[.int .i64 g, v] w (RepsPost g t w) := by
  by_cases h : (check g t).1 = 0
  · obtain ⟨h0, h1, -⟩ := check_good h
    have e : g = ((g.toNat : Nat) : Int) := by omega
    rw [e]
    exact reps50_good w v g.toNat t ht h1
  · exact reps50_bad w v g t ht h
set_option maxRecDepth 100000 in
set_option maxHeartbeats 1000000 in
theorem of68_bad (w : World) (v : Value) (g : Int) (t : Tb) (ht : Tab w v t) (he : (repsE g t).2 ≠ 0) :
    Calls Tryz.prog 24 #[.int .i64 g, v] w fun e w' => e = .returned (.tuple #[.agg zero95, .int .i64 (repsE g t).2]) ∧ Below w.heap.size w w' := by
  have hb0 : Below w.heap.size w (w.alloc (.cells zero95 66)) := (Below.refl _ _).alloc (Nat.le_refl _) _
  have HC := Lib.hid (reps50_any _ v g t (kept_tab.below ht hb0))
  have hg0 := heap_alloc_new w (.cells zero95 66)
  have hsz0 : w.heap.size < (w.alloc (.cells zero95 66)).heap.size := by simp
  have HG0 := Lib.hid hg0
  have HB0 := Lib.hid hb0
  have HS0 := Lib.hid hsz0
  have d1 : ((repsE g t).2 != 0) = true := by simpa using he
  obtain ⟨A, c, rfl, hc1, hc2, hc⟩ := ht.open_
  clear hc ht hb0 hg0 hsz0
  have HC' : Hid (Calls Tryz.prog 51 #[.int .i64 g, .slice A t.length c] (w.alloc (.cells zero95 66)) fun e w' => (∃ u, e = .returned (.tuple #[u, .int .i64 (repsE g t).2])) ∧ Below (w.alloc (.cells zero95 66)).heap.size (w.alloc (.cells zero95 66)) w') :=
    Lib.hid (HC.out.mono fun e w' ⟨⟨u, h1, _⟩, h2⟩ => ⟨⟨u, h1⟩, h2⟩)
  clear HC
  generalize (repsE g t).2 = x at *
  clear he
  go_enter Tryz.func24, Tryz.ntmps24
  go_wp2_with (first
    | ((with_reducible refine wpList_sel 4 ?_); refine wpList_val rfl (r_alloc95 rfl) ?_)
    | (go_at_call 51; (refine HC'.out.mono ?_); rintro e w1 ⟨⟨u, rfl⟩, hb⟩
       have HB1 := Lib.hid hb
       have HG1 : Hid (w1.heap[w.heap.size]? = some (.cells zero95 66 (0, 0))) := Lib.hid ((hb.block _ HS0.out).trans HG0.out)
       clear hb)
    | ((with_reducible refine wpList_sel 20 ?_); refine wpList_val rfl (r_build95 rfl) ?_; refine wpList_val rfl (r_move (.tmp 7) rfl rfl) ?_; refine wpList_skip rfl (r_store95 (.tmp 4) (.tmp 20) rfl w.heap.size zero95 zero95 rfl rfl HG1.out rfl rfl zero95_one) ?_))
  try simp only [Exit.inBlock, Exit.then]
  refine bodyPost_ret (results_95_tmp (p := 4) (q := 5) rfl _ _ w.heap.size zero95 (.int .i64 x) rfl rfl (setRow_heap _ _ _ _ _ _ HG1.out) rfl) rfl ⟨rfl, ?_⟩
  exact (HB0.out.trans (HB1.out.mono HB0.out.size)).trans ⟨rfl, rfl, rfl, by rw [World.setRow]; simp, fun k hk => setRow_other _ _ k _ (by omega)⟩
end Go.Proofs
