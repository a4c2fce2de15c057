/- tietze.replace; Parents and their roots, plainly; The state of an enumeration in memory: rows that are written, parents, a queue; The law of chapter 21: same, half, awake; cayleyref17.Same; the walk of RewritePresents; A region that draws its order, with guarded operations: each operation is shown once; A region that draws its order, whatever it holds: each operation is shown once. -/
import Derived.Test.YtmmbmhjdnlmedaaTkCS8
import Derived.Test.YtmmbmhjdnlmedaaTkCS3
import Derived.Test.YtmmbmhjdnlmedaaTkCS2
import Derived.Test.YtmmbmhjdnlmedaaTkCS7
import Derived.Deep.MidRow
import Derived.Deep.RegionHeld3
namespace Go.Proofs
open Go.RowKit Go.Shelf Go.Lib Go.Sort Go.Proofs.Ct Go.Proofs.Tz Go.Maps
theorem madeW (n : Nat) : madeCells (Value.slice none 0 0).cells n = Array.replicate n (.slice none 0 0) := by
  apply Array.ext_getElem?
  intro k
  simp only [madeCells, Value.cells, Array.getElem?_map, Array.getElem?_range, Array.getElem?_replicate]
  by_cases h : k < n
  · simp [h, Nat.mod_one]
  · simp [h]
theorem makeW (w : World) (n : Nat) (hn : n ≤ 8000000) : (Instr.makeSlice 25 (.int .i64 (n : Int)) (.int .i64 (n : Int))).run Try.prog w =
    .ok (.slice (some ⟨w.heap.size, 0, none⟩) n n) (w.alloc (.cells (Array.replicate n (.slice none 0 0)) 24)) := by
  obtain ⟨i, hi, hz, hs, hb⟩ := info25p
  have := run_makeSlice (P := Try.prog) w 25 24 i (.slice none 0 0) Try.underlying25 hi hz .i64 .i64 n n (by omega) (Int.le_refl _) (by rw [hs]; simp; omega) (by rw [hb]; omega) (by omega)
  rw [this, hs, Int.toNat_natCast, Nat.mul_one, madeW]
theorem ints_nil (w : World) : IntsAt w (.slice none 0 0) [] := ⟨⟨none, 0, 0, rfl, rfl, Nat.le_refl _, by simp [maxLen], fun h => absurd h (by simp)⟩, fun z hz => by cases hz⟩
/-- a list of n words just made -/
theorem OutSt.made (w0 wr : World) (hb : Below w0.heap.size w0 wr) (n : Nat) (hn : n ≤ 8000000) : OutSt 24 (fun _ => False) w0 (wr.alloc (.cells (Array.replicate n (.slice none 0 0)) 24)) (.slice (some ⟨wr.heap.size, 0, none⟩) n n) (List.replicate n []) := by
  refine ⟨hb.alloc hb.size _, ⟨List.replicate n (.slice none 0 0), ⟨by simp, .inr ⟨wr.heap.size, n, _, by rw [List.length_replicate], hb.size, heap_alloc_new wr _, by rw [List.length_replicate]; exact Nat.le_refl _, by unfold maxLen; omega, by simp, by simp⟩⟩, by simp, fun j hj => ?_⟩, fun k hk => hk.elim⟩
  rw [List.length_replicate] at hj
  refine ⟨.slice none 0 0, by simp [hj], ?_⟩
  rw [show (List.replicate n ([] : List Int)).getD j [] = [] by simp [List.getD_eq_getElem?_getD, hj]]
  exact fun w' _ => ints_nil w'
/-- a word takes a place in the list -/
theorem OutSt2.put {F : Nat → Prop} {w0 wr : World} {g n c k : Nat} {A : Option Addr} {m d : Nat} {rows : List (List Int)} {x : List Int} (h : OutSt2 24 F w0 wr (.slice (some ⟨g, 0, none⟩) n c) (.slice A m d) rows x) (hf : Fits x) (hk : k < rows.length) :
    OutSt 24 (fun r => F r ∨ (Value.slice A m d).ownBlock = some r) w0 (wr.setCell ⟨g, k, none⟩ (.slice A m d)) (.slice (some ⟨g, 0, none⟩) n c) (rows.set k x) ∧ (∃ z, wr.cell? ⟨g, k, none⟩ = some z) ∧ wr.frozen? ⟨g, k, none⟩ = false := by
  obtain ⟨vals, ⟨hlen, ho⟩, hr⟩ := h.st.out
  rcases ho with ⟨e, -⟩ | ⟨g', cap, cur, e, hb, hC, h1, hm, hs, ht⟩
  · cases e
  · injection e with e1 e2 e3
    injection e1 with e1
    injection e1 with e1
    subst e1 e2 e3
    rw [Nat.mul_one] at hs ht
    have hgl := (Array.getElem?_eq_some_iff.1 hC).1
    have hnew : (wr.setCell ⟨g, k, none⟩ (.slice A m d)).heap[g]? = some (.cells (cur.setIfInBounds k (.slice A m d)) 24 (0, 0)) := by
      rw [setCell_eq]
      simp [mapBlock, Array.getElem?_modify, hC, onCells]
    have hgb : wr.grownBy (wr.setCell ⟨g, k, none⟩ (.slice A m d)) (some g) := ⟨rfl, rfl, rfl, by simp [World.setCell], fun r _ hne => Below.heap_setCell wr ⟨g, k, none⟩ _ r (fun e => hne (by rw [e]))⟩
    have hne : ∀ {r : Nat} {C : Array Value} {fr : Nat × Nat}, wr.heap[r]? = some (.cells C 3 fr) → r ≠ g := fun {r C fr} hc e => by
      subst e
      rw [hC] at hc
      injection hc with h5
      injection h5 with _ h6 _
      exact absurd h6 (by decide)
    have hFg : ∀ r, F r → r < wr.heap.size ∧ some g ≠ some r := fun r hr => by
      obtain ⟨-, h2, C, hc⟩ := h.st.fs r hr
      exact ⟨h2, fun e => hne hc (Option.some.inj e).symm⟩
    have hUg : ∀ r, (Value.slice A m d).ownBlock = some r → w0.heap.size ≤ r ∧ r < wr.heap.size ∧ some g ≠ some r ∧ ∃ C, wr.heap[r]? = some (.cells C 3 (0, 0)) := fun r hr => by
      obtain ⟨h2, C, hc⟩ := owns_block h.row r hr
      exact ⟨h2, (Array.getElem?_eq_some_iff.1 hc).1, fun e => hne hc (Option.some.inj e).symm, C, hc⟩
    have hvl := hr.1
    refine ⟨⟨h.st.below.trans ⟨rfl, rfl, rfl, by simp [World.setCell], fun r hr => Below.heap_setCell wr ⟨g, k, none⟩ _ r (by show r ≠ g; omega)⟩, ⟨vals.set k (.slice A m d), ⟨by rw [List.length_set, List.length_set]; omega, .inr ⟨g, c, _, by rw [List.length_set], hb, hnew, by rw [List.length_set]; exact h1, hm, by simp [hs], ?_⟩⟩, by rw [List.length_set, List.length_set]; exact hvl, fun j hj => ?_⟩, fun r hr => ?_⟩, ⟨cur[k]'(by omega), ?_⟩, by simp [World.frozen?, hC]⟩
    · rw [List.length_set, Nat.mul_one, Array.toList_setIfInBounds, List.take_set, ht]
    · rw [List.length_set] at hj
      by_cases e : k = j
      · subst e
        refine ⟨.slice A m d, by rw [List.getElem?_set_self (by omega)], ?_⟩
        rw [show (rows.set k x).getD k [] = x by simp [List.getD_eq_getElem?_getD, hj]]
        have h7 := IntsF.of_own h.row hf
        exact (h7.keep fun r hr => hgb.block r (hUg r hr).2.1 (fun e => (hUg r hr).2.2.1 e.symm)).mono fun r hr => .inr hr
      · obtain ⟨u, hu, hx⟩ := hr.2 j hj
        refine ⟨u, by rw [List.getElem?_set_ne e]; exact hu, ?_⟩
        rw [show (rows.set k x).getD j [] = rows.getD j [] by simp [List.getD_eq_getElem?_getD, List.getElem?_set_ne e]]
        exact (hx.keep (Ag.grown hgb hFg)).mono fun r hr => .inl hr
    · rcases hr with hr | hr
      · obtain ⟨a1, a2, C, hc⟩ := h.st.fs r hr
        exact ⟨a1, Nat.lt_of_lt_of_le a2 hgb.size, C, grown_cells hgb hc (hFg r hr).2⟩
      · obtain ⟨a1, a2, a3, C, hc⟩ := hUg r hr
        exact ⟨a1, Nat.lt_of_lt_of_le a2 hgb.size, C, grown_cells hgb hc a3⟩
    · rw [cell_of_row _ _ _ _ _ _ hC]
      exact Array.getElem?_eq_getElem _
/-- the first k words are replaced -/
def repTo (G l : List (List Int)) (k : Nat) : List (List Int) := (l.take k).map (sbW G) ++ List.replicate (l.length - k) []
theorem repTo_len (G l : List (List Int)) {k : Nat} (hk : k ≤ l.length) : (repTo G l k).length = l.length := by
  unfold repTo
  rw [List.length_append, List.length_map, List.length_take, List.length_replicate]
  omega
theorem repTo_succ (G l : List (List Int)) {k : Nat} (hk : k < l.length) : (repTo G l k).set k (sbW G (l.getD k [])) = repTo G l (k + 1) := by
  unfold repTo
  have e : l.getD k [] = l[k] := by simp [List.getD_eq_getElem?_getD, hk]
  obtain ⟨m, hm⟩ : ∃ m, l.length - k = m + 1 := ⟨l.length - k - 1, by omega⟩
  rw [e, hm, show l.length - (k + 1) = m by omega, List.set_append_right _ _ (by rw [List.length_map, List.length_take]; omega), List.length_map, List.length_take, Nat.min_eq_left (by omega), Nat.sub_self, List.replicate_succ, List.set_cons_zero, List.take_succ_eq_append_getElem hk, List.map_append, List.append_assoc]
  rfl
theorem repTo_all (G l : List (List Int)) : repTo G l l.length = l.map (sbW G) := by
  unfold repTo
  rw [List.take_length, Nat.sub_self]
  simp
theorem sbL_bad {G l : List (List Int)} {k : Nat} (hk : k < l.length) (h : ¬ (sbW G (l.getD k [])).length ≤ 4000) : sbL G l = none := by
  unfold sbL
  rw [if_neg]
  intro ha
  refine h ?_
  have := List.all_eq_true.1 ha (l.getD k []) (by rw [List.getD_eq_getElem?_getD, List.getElem?_eq_getElem hk]; exact List.getElem_mem hk)
  exact of_decide_eq_true this
theorem sbL_good {G l : List (List Int)} (h : ∀ k, k < l.length → (sbW G (l.getD k [])).length ≤ 4000) : sbL G l = some (l.map (sbW G)) := by
  unfold sbL
  rw [if_pos]
  rw [List.all_eq_true]
  intro z hz
  obtain ⟨i, hi, rfl⟩ := List.getElem_of_mem hz
  have := h i hi
  rw [List.getD_eq_getElem?_getD, List.getElem?_eq_getElem hi] at this
  exact decide_eq_true this
/-- all words of a list are replaced -/
def RepPost (G l : List (List Int)) (w : World) (e : Ending) (w' : World) : Prop :=
  (match sbL G l with
  | none => e = .returned (.tuple #[.slice none 0 0, .int .i64 4])
  | some m => ∃ A c F, e = .returned (.tuple #[.slice A m.length c, .int .i64 0]) ∧ OutSt 24 F w w' (.slice A m.length c) m) ∧ Below w.heap.size w w'
set_option maxRecDepth 100000 in
set_option maxHeartbeats 4000000 in
theorem replace24_ok (w : World) (u v : Value) (l G : List (List Int)) (hu : Tab w u l) (hG : Tab w v G) (hll : l.length ≤ 1000) (hwl : ∀ j, j < l.length → (l.getD j []).length ≤ 4000) (hok : ∀ j, j < l.length → ∀ x ∈ l.getD j [], Mild x ∧ x ≠ 0 ∧ x.natAbs ≤ G.length) (hm : ∀ j, ∀ y ∈ G.getD j [], Mild y) (hl : ∀ j, (G.getD j []).length ≤ 1000) : Calls Try.prog 24 #[u, v] w (RepPost G l w) := by
  obtain ⟨Ag, cg, rfl⟩ := Tab.form hG
  obtain ⟨Al, cl, rfl⟩ := Tab.form hu
  have HSUB : Hid (∀ W z uz, Below w.heap.size w W → IntsAt W uz z → z.length ≤ 4000 → (∀ x ∈ z, Mild x ∧ x ≠ 0 ∧ x.natAbs ≤ G.length) → Calls Try.prog 42 #[uz, .slice Ag G.length cg] W (SubPost (sbW G z) W)) := Lib.hid fun W z uz hb h1 h2 h3 => subst42_ok W uz _ z G h1 (kept_tab.below hG hb) h2 h3 hm hl
  have HU := Lib.hid hu
  have HWL := Lib.hid hwl
  have HOK := Lib.hid hok
  have HMM := Lib.hid hm
  have hl0 : (0 : Int) ≤ (l.length : Int) := Int.natCast_nonneg _
  have hl1 : (l.length : Int) ≤ 1000 := by omega
  have HMK := Lib.hid (makeW w l.length (by omega))
  have HST := Lib.hid (OutSt.made w w (Below.refl _ _) l.length (by omega))
  clear hu hG hwl hok hm hl
  go_enter Try.func24, Try.ntmps24
  go_wp2_with ((with_reducible refine wpList_sel 13 ?_); refine wpList_val rfl (r_make 25 (.tmp 12) (.tmp 12) rfl rfl rfl HMK.out) ?_)
  generalize hw1 : w.alloc (.cells (Array.replicate l.length (.slice none 0 0)) 24) = w1 at *
  have HW1 := Lib.hid hw1
  clear hw1 HMK
  go_loopw [7, 8, 9, 10, 16, 21, 22, 23, 24, 25, 26] (fun _ _ _ _ z _ _ _ _ _ _ wr => ∃ (k : Nat) (F : Nat → Prop), k ≤ l.length ∧ z = .int .i64 k ∧ (∀ j, j < k → (sbW G (l.getD j [])).length ≤ 4000) ∧ Hid (OutSt 24 F w wr (.slice (some ⟨w.heap.size, 0, none⟩) l.length l.length) (repTo G l k))) (fun _ _ _ _ z _ _ _ _ _ _ _ => l.length - (intOf z).toNat)
  case atStart => exact ⟨0, _, Nat.zero_le _, rfl, fun j hj => absurd hj (by omega), Lib.hid (by unfold repTo; exact HST.out)⟩
  case round =>
    clear HST
    obtain ⟨k, F, hk, rfl, hz, HS⟩ := hrel
    have HZ := Lib.hid hz
    clear hz
    have hk0 : (0 : Int) ≤ (k : Int) := Int.natCast_nonneg _
    by_cases hlt : k < l.length
    · have hlt' : (k : Int) < (l.length : Int) := by omega
      obtain ⟨A', c', e', t1, t2, t3⟩ := (kept_tab.below HU.out HS.out.below).open_
      injection e' with e1 _ e3
      subst e1 e3
      obtain ⟨b, o, rfl, hcc⟩ := t3 (by omega)
      obtain ⟨uz, huz, hI⟩ := hcc k hlt
      have HC : Hid (Calls Try.prog 42 #[uz, .slice Ag G.length cg] wr (SubPost (sbW G (l.getD k [])) wr)) := Lib.hid (HSUB.out wr _ uz HS.out.below hI (HWL.out k hlt) (HOK.out k hlt))
      have HBAD := Lib.hid (fun h => sbL_bad (G := G) hlt h)
      have HSET := Lib.hid (repTo_succ G l hlt)
      have HFT : Hid (Fits (sbW G (l.getD k []))) := Lib.hid (Mild.fits (sbTo_mild HMM.out _ _))
      have hrl := repTo_len G l (k := k) (by omega)
      obtain ⟨Au, cu, rfl, -⟩ := hI.open_
      unfold SubPost at HC
      clear hcc hI t1 t2 t3
      generalize (l.getD k []).length = lz at *
      generalize hS : sbW G (l.getD k []) = S at *
      have HSE := Lib.hid hS
      clear hS
      by_cases hS : S.length ≤ 4000
      · simp only [if_pos hS] at HC
        have HSL := Lib.hid hS
        clear hS
        go_wp2_with (go_at_call 42; (refine HC.out.mono ?_); rintro e w2 ⟨⟨A5, c5, rfl, ho⟩, hb⟩
                     obtain ⟨hP, ⟨z, hcz⟩, hfz⟩ := (HS.out.with_row hb ho).put HFT.out (k := k) (by omega)
                     rw [HSET.out] at hP
                     have HP := Lib.hid hP
                     clear hP ho hb)
        go_roundw
        case rel => exact ⟨k + 1, _, by omega, by go_num, all_succ HZ.out (by rw [HSE.out]; exact HSL.out), Lib.hid HP.out⟩
        case measure => simp [intOf]; omega
      · simp only [if_neg hS] at HC
        have HE := Lib.hid (HBAD.out hS)
        clear hS
        go_wp2_with (go_at_call 42; (refine HC.out.mono ?_); rintro e w2 ⟨rfl, hb⟩)
        go_ret2
        refine ⟨?_, HS.out.below.trans (hb.mono HS.out.below.size)⟩
        rw [HE.out]
        rfl
    · obtain rfl : k = l.length := by omega
      have HE := Lib.hid (sbL_good HZ.out)
      rw [repTo_all] at HS
      go_wp2_with fail
      go_ret2
      refine ⟨?_, HS.out.below⟩
      rw [HE.out]
      have hml : (l.map (sbW G)).length = l.length := List.length_map _
      exact ⟨_, l.length, F, by rw [hml]; rfl, by rw [hml]; exact HS.out⟩
end Go.Proofs
namespace Go.Proofs.Ct
/-- in the list P of parents, the root of x is r -/
inductive Root (P : List Int) : Nat → Nat → Prop where
  | here {x : Nat} (h : P.getD x 0 = (x : Int)) : Root P x x
  | up {x y r : Nat} (h : P.getD x 0 = (y : Int)) (hl : y < x) (hr : Root P y r) : Root P x r
theorem Root.le {P : List Int} {x r : Nat} (h : Root P x r) : r ≤ x := by
  induction h with
  | here => exact Nat.le_refl _
  | up _ hl _ ih => omega
theorem Root.self {P : List Int} {x r : Nat} (h : Root P x r) : P.getD r 0 = (r : Int) := by
  induction h with
  | here h => exact h
  | up _ _ _ ih => exact ih
theorem Root.unique {P : List Int} {x r r' : Nat} (h : Root P x r) (h' : Root P x r') : r = r' := by
  induction h with
  | here h =>
    cases h' with
    | here => rfl
    | up h2 hl _ => omega
  | @up x y _ h hl hr ih =>
    cases h' with
    | here h2 => omega
    | @up _ y' _ h2 hl2 hr2 =>
      obtain rfl : y = y' := by omega
      exact ih hr2
theorem getD_set_of {l : List Int} {k j : Nat} {v : Int} (hk : k < l.length) : (l.set k v).getD j 0 = if k = j then v else l.getD j 0 := by
  rw [List.getD_eq_getElem?_getD, List.getElem?_set, List.getD_eq_getElem?_getD]
  by_cases h : k = j
  · subst h; simp [hk]
  · simp [h]
/-- a way is made shorter -/
theorem Root.short {P : List Int} {c q : Nat} (hc : Root P c q) (hcl : c < P.length) {x r : Nat} (h : Root P x r) : Root (P.set c (q : Int)) x r := by
  have hq := hc.self
  have hql := hc.le
  have hget : ∀ j, (P.set c (q : Int)).getD j 0 = if c = j then (q : Int) else P.getD j 0 := fun j => getD_set_of hcl
  have hrq : Root (P.set c (q : Int)) q q := .here (by
    rw [hget]
    split
    · rfl
    · exact hq)
  induction h with
  | @here x h =>
    refine .here ?_
    rw [hget]
    split
    · rename_i e
      subst e
      have := hc.unique (.here h)
      rw [this]
    · exact h
  | @up x y r h hl hr ih =>
    by_cases e : c = x
    · subst e
      have hr' := hc.unique (.up h hl hr)
      subst hr'
      have : q ≤ y := hr.le
      exact .up (y := q) (by rw [hget, if_pos rfl]) (by omega) hrq
    · exact .up (by rw [hget, if_neg e]; exact h) hl ih
/-- two roots are joined -/
theorem Root.link {P : List Int} {a b : Nat} (ha : P.getD a 0 = (a : Int)) (hb : P.getD b 0 = (b : Int)) (hba : b < a) (hal : a < P.length) {x r : Nat} (h : Root P x r) : Root (P.set a (b : Int)) x (if r = a then b else r) := by
  have hget : ∀ j, (P.set a (b : Int)).getD j 0 = if a = j then (b : Int) else P.getD j 0 := fun j => getD_set_of hal
  have hbb : Root (P.set a (b : Int)) b b := .here (by rw [hget, if_neg (by omega)]; exact hb)
  induction h with
  | @here x h =>
    by_cases e : x = a
    · subst e
      rw [if_pos rfl]
      exact .up (y := b) (by rw [hget, if_pos rfl]) hba hbb
    · rw [if_neg e]
      exact .here (by rw [hget, if_neg (fun h => e h.symm)]; exact h)
  | @up x y r h hl hr ih =>
    have e : a ≠ x := fun e => by subst e; omega
    exact .up (by rw [hget, if_neg e]; exact h) hl ih
theorem Root.more {P : List Int} {x r : Nat} (hx : x < P.length) (h : Root P x r) (z : Int) : Root (P ++ [z]) x r := by
  have hget : ∀ j, j < P.length → (P ++ [z]).getD j 0 = P.getD j 0 := fun j hj => by simp [List.getD_eq_getElem?_getD, List.getElem?_append_left hj]
  induction h with
  | here h => exact .here (by rw [hget _ hx]; exact h)
  | up h hl hr ih => exact .up (by rw [hget _ hx]; exact h) hl (ih (by omega))
/-- the parents give the representatives -/
structure Roots (P : List Int) (s : St) : Prop where
  len : P.length = s.t.length
  root : ∀ x, x < s.t.length → Root P x (s.rp x)
theorem Roots.short {P : List Int} {s : St} (h : Roots P s) {c : Nat} (hc : c < s.t.length) : Roots (P.set c (s.rp c : Int)) s :=
  ⟨by simpa using h.len, fun x hx => (h.root c hc).short (by rw [h.len]; exact hc) (h.root x hx)⟩
theorem Roots.merge {g : Nat} {P : List Int} {s : St} (hI : Inv g s) (h : Roots P s) {a b : Nat} (ha : a < s.t.length) (hb : b < s.t.length) (hne : s.rp a ≠ s.rp b) : Roots (P.set (max (s.rp a) (s.rp b)) ((min (s.rp a) (s.rp b) : Nat) : Int)) (mergeS s a b) := by
  have ht := t_merge s a b
  have hra := (h.root a ha).self
  have hrb := (h.root b hb).self
  have hla := hI.rlt ha
  have hlb := hI.rlt hb
  refine ⟨by rw [ht]; simpa using h.len, fun x hx => ?_⟩
  rw [ht] at hx
  rw [rp_merge hI ha hb hx]
  refine Root.link ?_ ?_ (by omega) (by rw [h.len]; omega) (h.root x hx)
  · rcases Nat.le_total (s.rp a) (s.rp b) with h' | h'
    · rw [Nat.max_eq_right h']; exact hrb
    · rw [Nat.max_eq_left h']; exact hra
  · rcases Nat.le_total (s.rp a) (s.rp b) with h' | h'
    · rw [Nat.min_eq_left h']; exact hra
    · rw [Nat.min_eq_right h']; exact hrb
theorem Roots.add {g : Nat} {P : List Int} {s : St} (hI : Inv g s) (h : Roots P s) (m : Nat) : Roots (P ++ [(s.t.length : Int)]) (addS m s) := by
  refine ⟨by rw [length_add]; simp [h.len], fun x hx => ?_⟩
  rw [length_add] at hx
  rcases Nat.lt_or_ge x s.t.length with h1 | h1
  · rw [rp_add_old hI m h1]
    exact (h.root x h1).more (by rw [h.len]; exact h1) _
  · obtain rfl : x = s.t.length := by omega
    rw [rp_add_new hI m]
    exact .here (by rw [← h.len]; simp [List.getD_eq_getElem?_getD])
/-- the rows and the queue do not matter -/
theorem Roots.of_rep {P : List Int} {s s' : St} (h : Roots P s) (hn : s'.t.length = s.t.length) (hr : s'.rep = s.rep) : Roots P s' :=
  ⟨by rw [hn]; exact h.len, fun x hx => by rw [hn] at hx; have := h.root x hx; unfold St.rp at this ⊢; rw [hr]; exact this⟩
end Go.Proofs.Ct
namespace Go.Proofs
open Go.RowKit Go.Shelf Go.Proofs.Ct Go.Maps
def nats (l : List Nat) : List Int := l.map Int.ofNat
/-- rows, parents and queue in memory, all of the call's own from base on -/
structure CoreM (base : Nat) (w : World) (s : St) (P : List Int) (vr vp vq : Value) (bl cs : Nat → Nat) : Prop where
  out : w.ownsRow base 23 1 vr s.t.length ((List.range s.t.length).map fun i => .slice (some ⟨bl i, 0, none⟩) (s.t.row i).length (cs i))
  row : ∀ i, i < s.t.length → base ≤ bl i ∧ XsAt w (bl i) (s.t.row i) ∧ (s.t.row i).length ≤ cs i ∧ cs i ≤ 9223372036854775807
  inj : ∀ i j, i < s.t.length → j < s.t.length → bl i = bl j → i = j
  par : OwnI base w vp P
  que : OwnI base w vq (nats s.q)
  sepP : ∀ i, i < s.t.length → vp.ownBlock ≠ some (bl i)
  sepQ : ∀ i, i < s.t.length → vq.ownBlock ≠ some (bl i)
  pq : ∀ r, vp.ownBlock = some r → vq.ownBlock ≠ some r
  root : Roots P s
section
variable {base : Nat} {w w' : World} {s : St} {P : List Int} {vr vp vq : Value} {bl cs : Nat → Nat}
/-- nothing of it lies in the blocks that turn -/
theorem CoreM.keep (h : CoreM base w s P vr vp vq bl cs) (hk : ∀ k C e, base ≤ k → w.heap[k]? = some (.cells C e (0, 0)) → (e = 3 ∨ e = 23) → w'.heap[k]? = w.heap[k]?) : CoreM base w' s P vr vp vq bl cs := by
  refine ⟨owns_keep h.out fun r hr => ?_, fun i hi => ?_, h.inj, owns_keep h.par fun r hr => ?_, owns_keep h.que fun r hr => ?_, h.sepP, h.sepQ, h.pq, h.root⟩
  · obtain ⟨a, C, hC⟩ := owns_block h.out r hr
    exact hk r C 23 a hC (.inr rfl)
  · obtain ⟨a, b, c⟩ := h.row i hi
    obtain ⟨C, hC, -⟩ := id b
    exact ⟨a, b.keep (hk _ C 3 a hC (.inl rfl)), c⟩
  · obtain ⟨a, C, hC⟩ := owns_block h.par r hr
    exact hk r C 3 a hC (.inl rfl)
  · obtain ⟨a, C, hC⟩ := owns_block h.que r hr
    exact hk r C 3 a hC (.inl rfl)
theorem CoreM.below (h : CoreM base w s P vr vp vq bl cs) (hb : Below w.heap.size w w') : CoreM base w' s P vr vp vq bl cs :=
  h.keep fun k _C _e _ hC _ => hb.block k (Array.getElem?_eq_some_iff.1 hC).1
/-- another block is written -/
theorem CoreM.other (h : CoreM base w s P vr vp vq bl cs) {b : Nat} {C0 : Array Value} {T : TypeId} (hb : w.heap[b]? = some (.cells C0 T (0, 0))) (h3 : T ≠ 3) (h24 : T ≠ 23) (k : Nat) (v : Value) : CoreM base (w.setCell ⟨b, k, none⟩ v) s P vr vp vq bl cs :=
  h.keep fun j C e _ hC he => Below.heap_setCell w ⟨b, k, none⟩ v j fun e' => by
    have e'' : j = b := e'
    rw [e'', hb] at hC
    cases hC
    rcases he with he | he <;> simp_all
theorem CoreM.len (h : CoreM base w s P vr vp vq bl cs) : P.length = s.t.length := h.root.len
/-- reading an element of a row -/
theorem CoreM.at_ (h : CoreM base w s P vr vp vq bl cs) {r c : Nat} (hr : r < s.t.length) (hc : c < (s.t.row r).length) : ∃ g cap, vr = .slice (some ⟨g, 0, none⟩) s.t.length cap ∧ w.cell? ⟨g, r, none⟩ = some (.slice (some ⟨bl r, 0, none⟩) (s.t.row r).length (cs r)) ∧ w.cell? ⟨bl r, c, none⟩ = some (.int .i64 (s.t.at r c)) ∧ w.frozen? ⟨bl r, c, none⟩ = false := by
  obtain ⟨-, hX, -⟩ := h.row r hr
  obtain ⟨hl, ho⟩ := h.out
  rcases ho with ⟨-, h0⟩ | ⟨g, cap, cur, rfl, hb, hC, h1, hm, hs, ht⟩
  · omega
  · refine ⟨g, cap, rfl, ?_, hX.cell hc, hX.frozen c⟩
    rw [cell_of_row _ _ _ _ _ _ hC]
    have h2 : (cur.toList.take (s.t.length * 1))[r]? = ((List.range s.t.length).map fun i => Value.slice (some ⟨bl i, 0, none⟩) (s.t.row i).length (cs i))[r]? := by rw [ht]
    rw [List.getElem?_take, if_pos (by omega)] at h2
    simpa [hr] using h2
/-- writing an element of a row -/
theorem CoreM.set (h : CoreM base w s P vr vp vq bl cs) {r c : Nat} (hr : r < s.t.length) (hc : c < (s.t.row r).length) (z : Int) : CoreM base (w.setCell ⟨bl r, c, none⟩ (.int .i64 z)) { s with t := set2 s.t r c z } P vr vp vq bl cs := by
  have hne : ∀ k, k ≠ bl r → (w.setCell ⟨bl r, c, none⟩ (.int .i64 z)).heap[k]? = w.heap[k]? := fun k hk => Below.heap_setCell w ⟨bl r, c, none⟩ _ k hk
  obtain ⟨-, hXr, -⟩ := h.row r hr
  obtain ⟨Cr, hCr, -⟩ := id hXr
  refine ⟨?_, fun i hi => ?_, fun i j hi hj => h.inj i j (by simpa [length_set2] using hi) (by simpa [length_set2] using hj), owns_keep h.par fun k hk => hne k (fun e => h.sepP r hr (by rw [hk, e])), owns_keep h.que fun k hk => hne k (fun e => h.sepQ r hr (by rw [hk, e])), fun i hi => h.sepP i (by simpa [length_set2] using hi), fun i hi => h.sepQ i (by simpa [length_set2] using hi), h.pq, h.root.of_rep (length_set2 _ _ _ _) rfl⟩
  · simp only [length_set2, rowlen_set2]
    refine owns_keep h.out fun k hk => hne k fun e => ?_
    obtain ⟨-, C, hC⟩ := owns_block h.out k hk
    rw [e, hCr] at hC
    cases hC
  · simp only [length_set2] at hi
    obtain ⟨a, b, d⟩ := h.row i hi
    simp only [rowlen_set2]
    refine ⟨a, ?_, d⟩
    rw [row_set2]
    by_cases e : r = i
    · subst e
      rw [if_pos ⟨rfl, hr⟩]
      exact hXr.set hc z
    · rw [if_neg (fun h' => e h'.1)]
      exact b.keep (hne _ fun e' => e (h.inj r i hr hi e'.symm))
end
end Go.Proofs
namespace Go.Proofs
open Go.RowKit Go.Shelf Go.Proofs.Ct Go.Maps
/-- numbers in a new block -/
theorem ints_lit (w : World) (xs : List Int) (hf : Fits xs) (n : Nat) (hn : xs.length = n) (hm : n ≤ 1000) : IntsAt (w.alloc (.cells (ints xs).toArray 3)) (.slice (some ⟨w.heap.size, 0, none⟩) n n) xs := by
  subst hn
  refine ⟨⟨_, xs.length, xs.length, rfl, by simp [ints], Nat.le_refl _, by have : xs.length ≤ 9223372036854775807 := by omega
                                                                           simpa [maxLen] using this, fun _ => ⟨w.heap.size, 0, rfl, fun j u hu => ?_⟩⟩, hf⟩
  rw [cell_of_row _ _ _ _ _ _ (heap_alloc_new w _), Nat.zero_add]
  simpa using hu
theorem tab_three (w : World) (u v z : Value) (x y q : List Int) (hu : IntsAt w u x) (hv : IntsAt w v y) (hz : IntsAt w z q) {e : TypeId} : Tab (w.alloc (.cells #[u, v, z] e)) (.slice (some ⟨w.heap.size, 0, none⟩) 3 3) [x, y, q] := by
  have hb : Below w.heap.size w (w.alloc (.cells #[u, v, z] e)) := (Below.refl _ _).alloc (Nat.le_refl _) _
  refine ⟨[u, v, z], ⟨_, 3, 3, rfl, rfl, Nat.le_refl _, by simp [maxLen], fun _ => ⟨w.heap.size, 0, rfl, fun j a ha => ?_⟩⟩, rfl, fun i hi => ?_⟩
  · rw [cell_of_row _ _ _ _ _ _ (heap_alloc_new w _), Nat.zero_add]
    simpa using ha
  · have : i = 0 ∨ i = 1 ∨ i = 2 := by simp at hi; omega
    rcases this with rfl | rfl | rfl
    · exact ⟨u, rfl, hu.below hb⟩
    · exact ⟨v, rfl, hv.below hb⟩
    · exact ⟨z, rfl, hz.below hb⟩
end Go.Proofs
namespace Go.Proofs
open Go.RowKit Go.Shelf Go.Proofs.Ct Go.Maps
theorem quiet_add_ex {P : Program} {f : FuncId} {args : Array Value} {w : World} {a n : Nat} {v : Value}
    (h : Calls P f args (w.drewN (a + n)) fun e w' => e = .returned v ∧ ∃ q, w' = (w.drewN (a + n)).drewN q) :
    Calls P f args (w.drewN (a + n)) fun e w'' => e = .returned v ∧ ∃ m, w'' = w.drewN (a + m) :=
  h.mono fun _ _ ⟨he, q, hm⟩ => ⟨he, n + q, by rw [hm, World.drewN_drewN, Nat.add_assoc]⟩
theorem wpList_valG {ops : Array Oper} {rest : List Oper} {o : Oper} {a : Act} {w w' : World} {Q : Exit → Act → World → Prop} {v : Value} (hg : Region.wanted o (yielded ops a.tmps) = true) (hrun : (execOp a.eval o).run Try.prog w = .ok (.value v) w') (h : wpList Try.prog ops Q rest (a.put o.dst v) w') : wpList Try.prog ops Q (o :: rest) a w :=
  BigFrame.wpList_want hg fun _ hK => by
    unfold Oper.wp
    rw [hrun]
    exact hK _ _ h
theorem LAt.cells' {α : Type} {R : World → Value → α → Prop} {d : α} {w : World} {v : Value} {xs : List α} (h : LAt R d w v xs) (A : Option Addr) (n c : Nat) (e : v = .slice A n c) : 0 < xs.length → ∃ b off, A = some ⟨b, off, none⟩ ∧ ∀ k, k < xs.length → ∃ u, w.cell? ⟨b, off + k, none⟩ = some u ∧ R w u (xs.getD k d) := by
  subst e
  exact h.cells
set_option maxRecDepth 100000 in
set_option maxHeartbeats 1000000 in
theorem equal80_any (w : World) (u v : Value) (x y : List Int) (hu : IntsAt w u x) (hv : IntsAt w v y) : Calls Try.prog 27 #[u, v] w fun e w' => e = .returned (.bool (decide (x = y))) ∧ ∃ q, w' = w.drewN q := by
  obtain ⟨A, c, rfl, h1, h2, h3⟩ := hu.open_
  obtain ⟨B, d, rfl, k1, k2, k3⟩ := hv.open_
  have HA := Lib.hid h3
  have HB := Lib.hid k3
  have hx0 : (0 : Int) ≤ (x.length : Int) := Int.natCast_nonneg _
  clear hu hv h3 k3
  by_cases hl : x.length = y.length
  · have d1 : ((x.length : Int) != (y.length : Int)) = false := by simp; omega
    have d2 : (x.length != y.length) = false := by simp; omega
    have HL := Lib.hid hl
    clear hl
    go_enter Try.func27, Try.ntmps27
    go_wp2_with fail
    go_loopw [5] (fun i wr => ∃ k : Nat, k ≤ x.length ∧ i = .int .i64 k ∧ Hid (∀ j, j < k → x.getD j 0 = y.getD j 0) ∧ ∃ q, wr = w.drewN q) (fun i _ => x.length - (intOf i).toNat)
    case atStart => exact ⟨0, Nat.zero_le _, rfl, Lib.hid fun j hj => absurd hj (by omega), 0, rfl⟩
    case round =>
      obtain ⟨k, hk, rfl, HZ, q, rfl⟩ := hrel
      have hk0 : (0 : Int) ≤ (k : Int) := Int.natCast_nonneg _
      by_cases hlt : k < x.length
      · obtain ⟨ba, oa, rfl, hca⟩ := HA.out (by omega)
        obtain ⟨bb, ob, rfl, hcb⟩ := HB.out (by rw [← HL.out]; omega)
        have hx1 := hca k hlt
        have hx2 := hcb k (by rw [← HL.out]; omega)
        have hka : (k : Int) < (x.length : Int) := by omega
        have hkb : (k : Int) < (y.length : Int) := by rw [← HL.out]; omega
        have HK : Hid (x.getD k 0 = y.getD k 0 → ∀ j, j < k + 1 → x.getD j 0 = y.getD j 0) := Lib.hid fun h => all_succ HZ.out h
        have HN : Hid (x.getD k 0 ≠ y.getD k 0 → x ≠ y) := Lib.hid fun h => getD_ne h
        clear hca hcb
        generalize x.getD k 0 = s at *
        generalize y.getD k 0 = t at *
        by_cases hst : s = t
        · have d5 : (s != t) = false := by simpa using hst
          have HK2 := Lib.hid (HK.out hst)
          clear hst HK HN
          go_wp2_with fail
          go_quiet (fail)
          go_wp2_with fail
          go_roundw
          case rel => exact ⟨k + 1, by omega, by go_num, HK2, (by first | exact ⟨_, rfl⟩ | exact ex_drewN)⟩
          case measure => simp [intOf]; omega
        · have d5 : (s != t) = true := by simpa using hst
          have HD : Hid (decide (x = y) = false) := Lib.hid (decide_eq_false (HN.out hst))
          clear hst HK HN
          go_wp2_with fail
          go_quiet (fail)
          go_wp2_with fail
          go_ret
          exact ⟨ret_bool HD.out.symm, (by first | exact ⟨_, rfl⟩ | exact ex_drewN)⟩
      · obtain rfl : k = x.length := by omega
        have HD : Hid (decide (x = y) = true) := Lib.hid (decide_eq_true (getD_ext HL.out HZ.out))
        go_wp2_with fail
        go_ret
        exact ⟨ret_bool HD.out.symm, (by first | exact ⟨_, rfl⟩ | exact ex_drewN)⟩
  · have d1 : ((x.length : Int) != (y.length : Int)) = true := by simp; omega
    have d2 : (x.length != y.length) = true := by simp; omega
    have HD : Hid (decide (x = y) = false) := Lib.hid (decide_eq_false fun h => hl (by rw [h]))
    clear hl
    go_enter Try.func27, Try.ntmps27
    go_wp2_with fail
    go_ret
    exact ⟨ret_bool HD.out.symm, 0, rfl⟩
set_option maxRecDepth 100000 in
set_option maxHeartbeats 2000000 in
theorem same26_any (w : World) (va vb : Value) (g1 g2 : Int) (A B : List (List Int)) (ha : Tab w va A) (hb : Tab w vb B) :
    Calls Try.prog 7 #[.agg #[.int .i64 g1, va], .agg #[.int .i64 g2, vb]] w fun e w' => e = .returned (.bool (decide (g1 = g2 ∧ A = B))) ∧ Below w.heap.size w w' := by
  obtain ⟨A0, ca, rfl, ha1, ha2, ha3⟩ := ha.open_
  obtain ⟨B0, cb, rfl, hb1, hb2, hb3⟩ := hb.open_
  have hbel : Below w.heap.size w ((w.alloc (.cells #[.int .i64 g1, .slice A0 A.length ca] 27)).alloc (.cells #[.int .i64 g2, .slice B0 B.length cb] 27)) := ((Below.refl _ _).alloc (Nat.le_refl _) _).alloc (by simp) _
  have hn1 : ((w.alloc (.cells #[.int .i64 g1, .slice A0 A.length ca] 27)).alloc (.cells #[.int .i64 g2, .slice B0 B.length cb] 27)).heap[w.heap.size]? = some (.cells #[.int .i64 g1, .slice A0 A.length ca] 27 (0, 0)) := (Below.heap_alloc (w.alloc _) _ w.heap.size (by simp)).trans (heap_alloc_new w _)
  have hn2 : ((w.alloc (.cells #[.int .i64 g1, .slice A0 A.length ca] 27)).alloc (.cells #[.int .i64 g2, .slice B0 B.length cb] 27)).heap[w.heap.size + 1]? = some (.cells #[.int .i64 g2, .slice B0 B.length cb] 27 (0, 0)) := by
    have := heap_alloc_new (w.alloc (.cells #[.int .i64 g1, .slice A0 A.length ca] 27)) (.cells #[.int .i64 g2, .slice B0 B.length cb] 27); rwa [World.size_alloc] at this
  obtain ⟨p0, p1⟩ := cell_of2 hn1
  obtain ⟨q0, q1⟩ := cell_of2 hn2
  have HA := Lib.hid ha3
  have HB := Lib.hid hb3
  have HBE := Lib.hid hbel
  have hA0 : (0 : Int) ≤ (A.length : Int) := Int.natCast_nonneg _
  clear ha hb ha3 hb3 hbel hn1 hn2
  by_cases hg : g1 = g2
  · have e1 : (g1 != g2) = false := by simpa using hg
    by_cases hl : A.length = B.length
    · have d1 : ((A.length : Int) != (B.length : Int)) = false := by simp; omega
      have d2 : (A.length != B.length) = false := by simp; omega
      have HL := Lib.hid hl
      have HG := Lib.hid hg
      clear hl hg
      go_enter Try.func7, Try.ntmps7
      go_wp2_with fail
      generalize hw0 : (w.alloc (.cells #[.int .i64 g1, .slice A0 A.length ca] 27)).alloc (.cells #[.int .i64 g2, .slice B0 B.length cb] 27) = w0 at *
      clear hw0
      go_loopw [5] (fun i wr => ∃ k : Nat, k ≤ A.length ∧ i = .int .i64 k ∧ Hid (∀ j, j < k → A.getD j [] = B.getD j []) ∧ ∃ q, wr = w0.drewN q) (fun i _ => A.length - (intOf i).toNat)
      case atStart => exact ⟨0, Nat.zero_le _, rfl, Lib.hid fun j hj => absurd hj (by omega), 0, rfl⟩
      case round =>
        obtain ⟨k, hk, rfl, HZ, q, rfl⟩ := hrel
        by_cases hlt : k < A.length
        · obtain ⟨b1, o1, rfl, hc1⟩ := HA.out (by omega)
          obtain ⟨b2, o2, rfl, hc2⟩ := HB.out (by rw [← HL.out]; omega)
          obtain ⟨u1, hu1, hr1⟩ := hc1 k hlt
          obtain ⟨u2, hu2, hr2⟩ := hc2 k (by rw [← HL.out]; omega)
          have hz1 := (HBE.out.cell (p := ⟨b1, o1 + k, none⟩) (World.block_lt_of_cell? w _ hu1)).trans hu1
          have hz2 := (HBE.out.cell (p := ⟨b2, o2 + k, none⟩) (World.block_lt_of_cell? w _ hu2)).trans hu2
          have hi1 := hr1.below HBE.out
          have hi2 := hr2.below HBE.out
          have hk0 : (0 : Int) ≤ (k : Int) := Int.natCast_nonneg _
          have hkb : (k : Int) < (B.length : Int) := by rw [← HL.out]; omega
          have hka : (k : Int) < (A.length : Int) := by omega
          have HEQ : Hid (∀ n, Calls Try.prog 27 #[u1, u2] (w0.drewN n) fun e w' => e = .returned (.bool (decide (A.getD k [] = B.getD k []))) ∧ ∃ q, w' = (w0.drewN n).drewN q) := Lib.hid fun n => equal80_any _ _ _ _ _ (hi1.drewN n) (hi2.drewN n)
          have HN : Hid (A.getD k [] ≠ B.getD k [] → A ≠ B) := Lib.hid (fun h => getD_ne (A := A) (B := B) (d := []) (k := k) h)
          have HK : Hid (A.getD k [] = B.getD k [] → ∀ j, j < k + 1 → A.getD j [] = B.getD j []) := Lib.hid (fun h => all_succ HZ.out h)
          obtain ⟨A3, c3, rfl, -, -, -⟩ := hr1.open_
          obtain ⟨A4, c4, rfl, -, -, -⟩ := hr2.open_
          clear hc1 hc2 hr1 hr2 hu1 hu2 hi1 hi2
          generalize A.getD k [] = x at *
          generalize B.getD k [] = y at *
          by_cases hxy : x = y
          · have HE : Hid (decide (x = y) = true) := Lib.hid (decide_eq_true hxy)
            have HK2 := Lib.hid (HK.out hxy)
            rw [HE.out] at HEQ
            clear hxy HN HK
            go_wp2_with fail
            go_quiet ((go_at_call 27; exact quiet_add_ex (HEQ.out _)))
            go_wp2_with fail
            go_roundw
            case rel => exact ⟨k + 1, by omega, by go_num, HK2, (by first | exact ⟨_, rfl⟩ | exact ex_drewN)⟩
            case measure => simp [intOf]; omega
          · have HE : Hid (decide (x = y) = false) := Lib.hid (decide_eq_false hxy)
            have HD : Hid (decide (g1 = g2 ∧ A = B) = false) := Lib.hid (decide_eq_false fun h => HN.out hxy h.2)
            rw [HE.out] at HEQ
            clear hxy HN HK
            go_wp2_with fail
            go_quiet ((go_at_call 27; exact quiet_add_ex (HEQ.out _)))
            go_wp2_with fail
            go_ret
            exact ⟨ret_bool HD.out.symm, below_drewN (below_drewN HBE.out _) _⟩
        · obtain rfl : k = A.length := by omega
          have HD : Hid (decide (g1 = g2 ∧ A = B) = true) := Lib.hid (decide_eq_true ⟨HG.out, getD_ext HL.out HZ.out⟩)
          go_wp2_with fail
          go_ret
          exact ⟨ret_bool HD.out.symm, below_drewN HBE.out _⟩
    · have d1 : ((A.length : Int) != (B.length : Int)) = true := by simp; omega
      have d2 : (A.length != B.length) = true := by simp; omega
      have HD : Hid (decide (g1 = g2 ∧ A = B) = false) := Lib.hid (decide_eq_false fun h => hl (by rw [h.2]))
      clear hl hg
      go_enter Try.func7, Try.ntmps7
      go_wp2_with fail
      go_ret
      exact ⟨ret_bool HD.out.symm, HBE.out⟩
  · have e1 : (g1 != g2) = true := by simpa using hg
    have HD : Hid (decide (g1 = g2 ∧ A = B) = false) := Lib.hid (decide_eq_false fun h => hg h.1)
    clear hg
    go_enter Try.func7, Try.ntmps7
    go_wp2_with fail
    go_ret
    exact ⟨ret_bool HD.out.symm, HBE.out⟩
end Go.Proofs
namespace Go.Proofs
open Go.RowKit Go.Shelf Go.Proofs.Ct Go.Maps
/-- The frame but for the slots dm 0, .., dm (N-1). -/
structure SameM (a0 : Act) (dm : Nat → Nat) (N : Nat) (a : Act) : Prop where
  size : a.tmps.size = a0.tmps.size
  defers : a.defers = a0.defers
  out : ∀ t, (∀ i, i < N → dm i ≠ t) → a.tmps.getD t undef = a0.tmps.getD t undef
theorem SameM.refl (a0 : Act) (dm : Nat → Nat) (N : Nat) : SameM a0 dm N a0 := ⟨rfl, rfl, fun _ _ => rfl⟩
theorem SameM.put {a0 a : Act} {dm : Nat → Nat} {N i : Nat} (h : SameM a0 dm N a) (hi : i < N) (v : Value) : SameM a0 dm N (a.put (some (dm i)) v) :=
  ⟨by simpa [Act.put] using h.size, h.defers, fun t ht => by rw [← h.out t ht, put_getD_ne _ _ _ _ (ht i hi)]⟩
/-- Every edge leads back; each of the first N operations has a successor up to N. -/
structure Tailed1 (ops : Array Oper) (N : Nat) : Prop where
  size : ops.size = N + 1
  lex : ∀ (i : Nat) (o : Oper), ops[i]? = some o → ∀ e ∈ o.after.toList, e.on < i
  succ : ∀ i, i < N → ∃ (j : Nat) (o : Oper), i < j ∧ j ≤ N ∧ ops[j]? = some o ∧ ∃ e ∈ o.after.toList, e.on = i ∧ Region.binds .any e = true
section
variable {F : Fence} {n : Nat} {P : Program} {ops : Array Oper} {Q : Exit → Act → World → Prop}
theorem Tailed1.before {N : Nat} (ht : Tailed1 ops N) {listed : Array Bool} (hc : Closed ops listed) {o : Oper} (ho : ops[N]? = some o) (hp : ∀ e ∈ o.after.toList, Region.binds .any e = true → listed.getD e.on false = true) :
    ∀ k i, i < N → N - i ≤ k → listed.getD i false = true := by
  intro k
  induction k with
  | zero => intro i hi hk; omega
  | succ k ih =>
    intro i hi hk
    obtain ⟨j, oj, hij, hjN, hoj, e, he, rfl, hb⟩ := ht.succ i hi
    rcases Nat.lt_or_ge j N with h | h
    · exact hc j oj hoj (ih j h (by omega)) e he hb
    · have : j = N := by omega
      subst this
      rw [ho] at hoj
      cases hoj
      exact hp e he hb
end
section
variable {n : Nat} {ops : Array Oper} {Q : Exit → Act → World → Prop} {i : Nat} {o : Oper} {K : Act → World → Prop} {a : Act} {w : World}
end
theorem SameM.frame {a0 a : Act} {dm : Nat → Nat} {N : Nat} (h : SameM a0 dm N a) (n : Nat) (hn : a0.tmps.size = n) :
    a = { tmps := ((List.range n).map fun t => if (List.range N).any (fun i => dm i == t) then a.tmps.getD t undef else a0.tmps.getD t undef).toArray, defers := a0.defers } := by
  obtain ⟨t, d⟩ := a
  have hd := h.defers
  have hs := h.size
  have ho := h.out
  simp only at hd hs ho
  subst hd
  congr 1
  apply Array.ext'
  apply List.ext_getElem?
  intro i
  show t.toList[i]? = (List.map _ (List.range n))[i]?
  rw [List.getElem?_map]
  rcases Nat.lt_or_ge i n with hi | hi
  · rw [List.getElem?_range hi]
    have hti : i < t.size := by omega
    simp only [Option.map_some]
    have hg : t.toList[i]? = some (t.getD i undef) := by simp [Array.getD_eq_getD_getElem?, hti]
    rw [hg]
    refine congrArg some ?_
    by_cases hx : (List.range N).any (fun q => dm q == i) = true
    · rw [if_pos hx]
    · rw [if_neg hx]
      refine ho i (fun j hj e => hx ?_)
      rw [List.any_eq_true]
      exact ⟨j, by simpa using hj, by simpa using e⟩
  · rw [List.getElem?_eq_none (by simpa using (by omega : t.size ≤ i)), List.getElem?_eq_none (by simpa using hi)]
    rfl
section
variable {o : Oper} {a : Act} {w w' : World} {n : Nat} {next : Act → World → Prop} {Q : Exit → Act → World → Prop} {v : Value}
theorem wpW_val (hrun : (execOp a.eval o).run Try.prog w = .ok (.value v) w') (h : next (a.put o.dst v) w') : o.wpIn Fence.wide n Try.prog a w next Q :=
  ⟨fun _ _ => trivial, by rw [Fence.wide_round, Oper.semAt_none, hrun]; exact h⟩
theorem wpW_call {f : FuncId} {args : Array Value} {R : Value → World → Prop} (hrun : (execOp a.eval o).run Try.prog w = .ok (.enter f args) w')
    (hc : Calls Try.prog f args w' fun e w'' => ∃ v, e = .returned v ∧ R v w'') (h : ∀ v w'', R v w'' → next (a.put o.dst v) w'') : o.wpIn Fence.wide n Try.prog a w next Q :=
  ⟨fun _ _ => trivial, by
    rw [Fence.wide_round, Oper.semAt_none, hrun]
    refine ⟨fun hh => by simp [Fence.wide] at hh, callsIn_wide.2 (hc.mono ?_)⟩
    rintro e w'' ⟨v, rfl, hR⟩
    exact h v w'' hR⟩
end
end Go.Proofs
namespace Go.Proofs
open Go.RowKit Go.Shelf Go.Proofs.Ct Go.Maps
/-- The frame: slots whose operations are not listed are as they were. -/
structure Part (a0 : Act) (dm : Nat → Option Tmp) (N : Nat) (ls : Nat → Bool) (a : Act) : Prop where
  size : a.tmps.size = a0.tmps.size
  defers : a.defers = a0.defers
  out : ∀ t, (∀ i, i < N → ls i = true → dm i ≠ some t) → a.tmps.getD t undef = a0.tmps.getD t undef
theorem Part.put {a0 a : Act} {dm : Nat → Option Tmp} {N i : Nat} {ls : Nat → Bool} (h : Part a0 dm N ls a) (hi : i < N) (v : Value) : Part a0 dm N (fun j => if i = j then true else ls j) (a.put (dm i) v) := by
  refine ⟨?_, ?_, fun t ht => ?_⟩
  · cases hd : dm i with
    | none => exact h.size
    | some t => simpa [Act.put] using h.size
  · cases hd : dm i with
    | none => exact h.defers
    | some t => exact h.defers
  · have h1 : ∀ j, j < N → ls j = true → dm j ≠ some t := fun j hj hl => ht j hj (by simp [hl])
    have h2 := ht i hi (by rw [if_pos rfl])
    rw [← h.out t h1]
    cases hd : dm i with
    | none => rfl
    | some t' => exact put_getD_ne _ _ _ _ (fun e => h2 (by rw [hd, e]))
def slotv (a : Act) : Option Tmp → Value
  | some t => a.tmps.getD t undef
  | none => undef
def lexB (ops : Array Oper) : Bool := (List.range ops.size).all fun i => match ops[i]? with | some o => o.after.toList.all fun e => decide (e.on < i) || !Region.binds .any e | none => true
theorem lex_of {ops : Array Oper} (h : lexB ops = true) : ∀ (i : Nat) (o : Oper), ops[i]? = some o → ∀ e ∈ o.after.toList, Region.binds .any e = true → e.on < i := fun i o ho e he hb => by
  unfold lexB at h
  rw [List.all_eq_true] at h
  have hi : i < ops.size := (Array.getElem?_eq_some_iff.1 ho).1
  have := h i (by simpa using hi)
  rw [ho] at this
  rw [List.all_eq_true] at this
  have h2 := this e he
  rw [hb] at h2
  simpa using h2
section
variable {F : Fence} {n : Nat} {P : Program} {ops : Array Oper} {Q : Exit → Act → World → Prop}
theorem wpIn_region_all {id : Nat} {a0 : Act} {w : World} (hm : P.follows .mixedOrders = true) (N : Nat) (hN : ops.size = N) (dm : Nat → Option Tmp) (hlex : ∀ (i : Nat) (o : Oper), ops[i]? = some o → ∀ e ∈ o.after.toList, Region.binds .any e = true → e.on < i)
    (S : (Nat → Bool) → World → Prop) (Φ : Nat → Value → World → Prop) (G : Nat → World → World → Prop)
    (hdm : ∀ i j t, i < N → j < N → dm i = some t → dm j = some t → i = j)
    (hΦ : ∀ i j v w w', i < N → j < N → i ≠ j → G i w w' → Φ j v w → Φ j v w')
    (hsz : ∀ i t, i < N → dm i = some t → t < a0.tmps.size) (h0 : S (fun _ => false) w.drew)
    (hop : ∀ (ls : Nat → Bool) (i : Nat) (o : Oper) (a : Act) (w : World), i < N → ops[i]? = some o → S ls w → ls i = false → (∀ (j : Nat) (oj : Oper), ops[j]? = some oj → ls j = true → ∀ e ∈ oj.after.toList, Region.binds .any e = true → ls e.on = true) → Part a0 dm N ls a →
      (∀ e ∈ o.after.toList, Region.binds .any e = true → ls e.on = true ∧ Φ e.on (slotv a (dm e.on)) w) →
      wpOpIn F n P ops Q i (fun a' w' => ∃ v, a' = a.put (dm i) v ∧ S (fun j => if i = j then true else ls j) w' ∧ G i w w' ∧ (dm i = none → v = undef) ∧ Φ i v w') a w)
    (hend : ∀ (ls : Nat → Bool) (a : Act) (w : World), (∀ i, i < N → ls i = true) → S ls w → Part a0 dm N ls a → (∀ i, i < N → Φ i (slotv a (dm i)) w) → Q .normal a w) :
    (Code.region id ops true).wpIn F n P Q a0 w := by
  subst hN
  refine wpIn_region_any hm ?_
  refine wpAnyIn_inv (fun listed a w => Closed ops listed ∧ S (fun j => listed.getD j false) w ∧ Part a0 dm ops.size (fun j => listed.getD j false) a ∧ ∀ i, i < ops.size → listed.getD i false = true → Φ i (slotv a (dm i)) w) ?_ ?_ ops.size _ a0 _ (by simp) ?_ ⟨fun i o ho h => ?_, ?_, ⟨rfl, rfl, fun _ _ => rfl⟩, fun i hi h => ?_⟩
  · rintro listed a w i hls ⟨hcl, hS, hP, hsl⟩ hi
    obtain ⟨h1, h2, o, ho, hpre⟩ := ready_mem hi
    rw [getD_true_false (by omega)] at h2
    have hsetD : ∀ j, (listed.setIfInBounds i true).getD j false = if i = j then true else listed.getD j false := fun j => getD_set_listed (by omega)
    have hcl' : Closed ops (listed.setIfInBounds i true) := fun j oj hoj hl e he hb => by
      rw [hsetD] at hl ⊢
      by_cases eij : i = j
      · subst eij
        rw [ho] at hoj; cases hoj
        have := hpre e he hb
        split
        · rfl
        · exact this
      · rw [if_neg eij] at hl
        have := hcl j oj hoj hl e he hb
        split
        · rfl
        · exact this
    have hwp := hop _ i o a w h1 ho hS h2 (fun j oj hoj hl => hcl j oj hoj hl) hP (fun e he hb => ⟨hpre e he hb, hsl e.on (by have := hlex i o ho e he hb; omega) (hpre e he hb)⟩)
    refine wpOpIn_mono (fun a' w' h => ?_) hwp
    obtain ⟨v, rfl, hS', hG, hvn, hv⟩ := h
    rw [show (fun j => if i = j then true else listed.getD j false) = (fun j => (listed.setIfInBounds i true).getD j false) from (funext hsetD).symm] at hS'
    have hP' := hP.put h1 v
    rw [show (fun j => if i = j then true else listed.getD j false) = (fun j => (listed.setIfInBounds i true).getD j false) from (funext hsetD).symm] at hP'
    refine ⟨hcl', hS', hP', fun j hj hl => ?_⟩
    by_cases e : i = j
    · subst e
      have : slotv (a.put (dm i) v) (dm i) = v := by
        cases hdi : dm i with
        | none => rw [hvn hdi]; rfl
        | some t => exact put_getD_same _ _ _ (by rw [hP.size]; exact hsz i t h1 hdi)
      rw [this]
      exact hv
    · rw [hsetD, if_neg e] at hl
      have := hΦ i j _ _ _ h1 hj e hG (hsl j hj hl)
      have hv' : slotv (a.put (dm i) v) (dm j) = slotv a (dm j) := by
        cases hdj : dm j with
        | none => rfl
        | some t =>
          cases hdi : dm i with
          | none => rfl
          | some t' => exact put_getD_ne _ _ _ _ (fun e' => e (hdm i j t h1 hj (by rw [hdi, e']) hdj))
      rw [hv']
      exact this
  · rintro listed a w hls ⟨hcl, hS, hP, hsl⟩ hr
    have hready : ∀ i, i < ops.size → listed.getD i false = true := by
      intro i
      induction i using Nat.strongRecOn with
      | _ i ih =>
        intro hi
        rcases hl : listed.getD i false with _ | _
        · have hmem : i ∈ Region.ready .any ops listed := by
            simp only [Region.ready, List.mem_filter, List.mem_range, Bool.and_eq_true, Bool.not_eq_true']
            refine ⟨hi, by rw [getD_true_false (by omega)]; exact hl, ?_⟩
            rw [Array.getElem?_eq_getElem hi]
            simp only [Option.map_some, Option.getD_some]
            rw [Array.all_eq_true_iff_forall_mem]
            intro e he
            by_cases hb : Region.binds .any e = true
            · have hlt := hlex i _ (Array.getElem?_eq_getElem hi) e (by simpa using he) hb
              simp [ih e.on hlt (by omega)]
            · simp [hb]
          rw [hr] at hmem; cases hmem
        · rfl
    exact hend _ a w hready hS hP (fun i hi => hsl i hi (hready i hi))
  · simp
  · have : (Array.replicate ops.size false).getD i false = false := by
      simp only [Array.getD_eq_getD_getElem?, Array.getElem?_replicate]; split <;> rfl
    rw [this] at h; cases h
  · rw [show (fun j => (Array.replicate ops.size false).getD j false) = (fun _ => false) from funext fun j => by simp only [Array.getD_eq_getD_getElem?, Array.getElem?_replicate]; split <;> rfl]
    exact h0
  · have : (Array.replicate ops.size false).getD i false = false := by
      simp only [Array.getD_eq_getD_getElem?, Array.getElem?_replicate]; split <;> rfl
    rw [this] at h; cases h
end
theorem not_yet {ops : Array Oper} {ls : Nat → Bool} (hcl : ∀ (j : Nat) (oj : Oper), ops[j]? = some oj → ls j = true → ∀ e ∈ oj.after.toList, Region.binds .any e = true → ls e.on = true) (j : Nat) {oj : Oper} (hoj : ops[j]? = some oj) (e : Edge) (he : e ∈ oj.after.toList) (hb : Region.binds .any e = true) (h : ls e.on = false) : ls j = false := by
  cases hj : ls j with
  | false => rfl
  | true => rw [hcl j oj hoj hj e he hb] at h; cases h
theorem dm_out {dm : Nat → Option Tmp} {N t : Nat} {ls : Nat → Bool} (h : (List.range N).all (fun i => !(dm i == some t)) = true) : ∀ i, i < N → ls i = true → dm i ≠ some t := fun i hi _ e => by
  rw [List.all_eq_true] at h
  have := h i (by simpa using hi)
  rw [e] at this
  simp at this
theorem dm_out1 {dm : Nat → Option Tmp} {N t k : Nat} {ls : Nat → Bool} (hk : ls k = false) (h : (List.range N).all (fun i => !(dm i == some t) || i == k) = true) : ∀ i, i < N → ls i = true → dm i ≠ some t := fun i hi hl e => by
  rw [List.all_eq_true] at h
  have := h i (by simpa using hi)
  rw [e] at this
  have h2 : i = k := by simpa using this
  rw [h2, hk] at hl
  cases hl
theorem dm_inj {dm : Nat → Option Tmp} {N : Nat} (h : (List.range N).all (fun i => (List.range N).all fun j => (i == j) || (dm i == none) || !(dm i == dm j)) = true) : ∀ i j t, i < N → j < N → dm i = some t → dm j = some t → i = j := fun i j t hi hj e1 e2 => by
  rw [List.all_eq_true] at h
  have h1 := h i (by simpa using hi)
  rw [List.all_eq_true] at h1
  have h2 := h1 j (by simpa using hj)
  rw [e1, e2] at h2
  simpa using h2
theorem dm_lt {dm : Nat → Option Tmp} {N n : Nat} (h : (List.range N).all (fun i => match dm i with | some t => decide (t < n) | none => true) = true) : ∀ i t, i < N → dm i = some t → t < n := fun i t hi e => by
  rw [List.all_eq_true] at h
  have := h i (by simpa using hi)
  rw [e] at this
  simpa using this
/-- The frame behind the region, written out. -/
theorem Part.frame {a0 a : Act} {dm : Nat → Option Tmp} {N : Nat} {ls : Nat → Bool} (h : Part a0 dm N ls a) (n : Nat) (hn : a0.tmps.size = n) :
    ∃ vs : Nat → Value, (∀ t, vs t = a.tmps.getD t undef) ∧ a = { tmps := ((List.range n).map fun t => if (List.range N).any (fun i => dm i == some t) then vs t else a0.tmps.toList.getD t undef).toArray, defers := a0.defers } := by
  refine ⟨fun t => a.tmps.getD t undef, fun _ => rfl, ?_⟩
  obtain ⟨t, d⟩ := a
  have hd := h.defers
  have hs := h.size
  have ho := h.out
  simp only at hd hs ho
  subst hd
  congr 1
  apply Array.ext'
  apply List.ext_getElem?
  intro i
  rcases Nat.lt_or_ge i n with hi | hi
  · have hit : i < t.size := by omega
    have hg : t.toList[i]? = some (t.getD i undef) := by simp [Array.getD, hit]
    rw [hg]
    simp only [List.getElem?_map, List.getElem?_range hi, Option.map_some]
    congr 1
    by_cases hx : (List.range N).any (fun q => dm q == some i) = true
    · rw [if_pos hx]
    · rw [if_neg hx]
      rw [ho i (fun j hj _ e => hx ?_)]
      · simp [Array.getD_eq_getD_getElem?, List.getD_eq_getElem?_getD]
      · rw [List.any_eq_true]
        exact ⟨j, by simpa using hj, by simpa using e⟩
  · rw [List.getElem?_eq_none (by simpa using (by omega : t.size ≤ i)), List.getElem?_eq_none (by simpa using hi)]
end Go.Proofs
