/- slices.IndexFunc and slices.ContainsFunc at a list of numbers; smith.Check, (smith.work).check; (smith.work).check; many and entry of (smith.rows) and (smith.columns); smith.clear at rows and at columns; smith.clear at columns. -/
import Derived.Test.YthfachbkcmifbaaPoCS4
namespace Go.Proofs
open Go.RowKit Go.Shelf Go.Proofs.Sm
/-- function g, bound to lb, answers p at the numbers that ok allows, in w and behind draws -/
def PredW (g : Nat) (lb : Array Value) (ok : Int → Prop) (p : Int → Bool) (w : World) : Prop :=
  ∀ (x : Int) (q : Nat), ok x → Calls Try.prog g (#[.int .i64 x] ++ lb) (w.drewN q) fun e w' => e = .returned (.bool (p x)) ∧ ∃ q', w' = w.drewN q'
def IdxSaid (b : Bool) (e : Ending) : Prop := ∃ r : Int, e = .returned (.int .i64 r) ∧ decide (0 ≤ r) = b
theorem any_false_of {p : Int → Bool} {xs : List Int} (h : ∀ j, j < xs.length → p (xs.getD j 0) = false) : xs.any p = false := by
  rw [List.any_eq_false]
  intro x hx
  obtain ⟨c, hc, rfl⟩ := List.mem_iff_getElem.1 hx
  have := h c hc
  rw [List.getD_eq_getElem?_getD, List.getElem?_eq_getElem hc] at this
  simpa using this
theorem any_true_of {p : Int → Bool} {xs : List Int} {k : Nat} (hk : k < xs.length) (h : p (xs.getD k 0) = true) : xs.any p = true := by
  rw [List.any_eq_true]
  rw [List.getD_eq_getElem?_getD, List.getElem?_eq_getElem hk] at h
  exact ⟨_, List.getElem_mem hk, h⟩
section
variable (g : Nat) (lb : Array Value) (ok : Int → Prop) (p : Int → Bool) (w : World) (eg : ∀ args w, (callFunc g args).run Try.prog w = .ok (.enter g args) w) (hp : PredW g lb ok p w) (v : Value) (xs : List Int) (h : IntsAt w v xs) (hok : ∀ x ∈ xs, ok x)
include eg hp h hok
set_option maxHeartbeats 400000 in
theorem idx60_any : Calls Try.prog 60 #[v, .func (.func g) #[] lb] w fun e w' => IdxSaid (xs.any p) e ∧ ∃ q, w' = w.drewN q := by
  obtain ⟨A, c, rfl, hc1, hc2, hc⟩ := h.open_
  have HC := Lib.hid hc
  have HP := Lib.hid hp
  have HK := Lib.hid hok
  clear hc hp h hok
  go_enter Try.func60, Try.ntmps60
  go_wp2_with fail
  go_loopw [5, 8] (fun _ i wr => ∃ k : Nat, k ≤ xs.length ∧ i = .int .i64 k ∧ (∀ j, j < k → p (xs.getD j 0) = false) ∧ ∃ q, wr = w.drewN q) (fun _ i _ => xs.length - (intOf i).toNat)
  case atStart => exact ⟨0, Nat.zero_le _, rfl, fun j hj => absurd hj (by omega), 0, rfl⟩
  case round =>
    obtain ⟨k, hk, rfl, hz, q, rfl⟩ := hrel
    have HZ := Lib.hid hz
    clear hz
    by_cases hlt : k < xs.length
    · obtain ⟨b, o, rfl, hcc⟩ := HC.out (by omega)
      have hck := hcc k hlt
      have hx : ok (xs.getD k 0) := HK.out _ (by rw [List.getD_eq_getElem?_getD, List.getElem?_eq_getElem hlt]; exact List.getElem_mem hlt)
      clear hcc
      have HA := Lib.hid (any_true_of (p := p) hlt)
      generalize hxe : xs.getD k 0 = x at *
      have HXE := Lib.hid hxe
      clear hxe
      have HX := Lib.hid hx
      clear hx
      have hcall := HP.out x q HX.out
      cases hq : p x with
      | true =>
        rw [hq] at hcall
        have HQ := Lib.hid hq
        clear hq
        have HCALL := Lib.hid hcall
        clear hcall
        go_wp2_with (go_at_fn g; (refine HCALL.out.mono ?_); rintro e w' ⟨rfl, q', rfl⟩)
        go_ret
        exact ⟨⟨k, rfl, by rw [HA.out HQ.out]; simp⟩, _, rfl⟩
      | false =>
        rw [hq] at hcall
        have HQ := Lib.hid hq
        clear hq
        have HCALL := Lib.hid hcall
        clear hcall
        go_wp2_with (go_at_fn g; (refine HCALL.out.mono ?_); rintro e w' ⟨rfl, q', rfl⟩)
        go_roundw
        case rel => exact ⟨k + 1, by omega, by go_num, all_succ HZ.out (by rw [HXE.out]; exact HQ.out), _, rfl⟩
        case measure => simp [intOf]; omega
    · obtain rfl : k = xs.length := by omega
      go_wp2_with fail
      go_ret
      exact ⟨⟨-1, rfl, by rw [any_false_of HZ.out]; rfl⟩, _, rfl⟩
theorem has41_any : Calls Try.prog 41 #[v, .func (.func g) #[] lb] w fun e w' => e = .returned (.bool (xs.any p)) ∧ ∃ q, w' = w.drewN q := by
  have hcon := Lib.hid (idx60_any g lb ok p w eg hp v xs h hok)
  clear hp h hok
  go_enter Try.func41, Try.ntmps41
  go_wp2_with (go_at_call 60; (refine hcon.out.mono ?_); rintro e w' ⟨⟨r, rfl, hr⟩, q, rfl⟩; have HR := Lib.hid hr; clear hr)
  go_ret
  exact ⟨ret_bool HR.out, _, rfl⟩
end
theorem eg105 : ∀ args w, (callFunc 105 args).run Try.prog w = .ok (.enter 105 args) w := enters_of Try.func105 (by kernel_rfl) rfl
theorem eg42 : ∀ args w, (callFunc 42 args).run Try.prog w = .ok (.enter 42 args) w := enters_of Try.func42 (by kernel_rfl) rfl
/-- the absolute value -/
theorem size70_any (x : Int) (w : World) (h1 : -9000000000000000000 ≤ x) (h2 : x ≤ 9000000000000000000) : Calls Try.prog 70 #[.int .i64 x] w fun e w' => e = .returned (.int .i64 (x.natAbs : Int)) ∧ w = w' := by
  go_enter Try.func70, Try.ntmps70
  go_wp2_with fail
  all_goals
    go_ret
    exact ⟨ret_int (by omega), rfl⟩
def Mid (x : Int) : Prop := -9000000000000000000 ≤ x ∧ x ≤ 9000000000000000000
theorem pred105 (w : World) : PredW 105 #[] Mid (fun x => !small x) w := fun x q hx => by
  have hs := Lib.hid fun w' => size70_any x w' hx.1 hx.2
  have e : (decide (1000000000 < (x.natAbs : Int))) = !small x := by
    unfold small
    by_cases h : -1000000000 ≤ x ∧ x ≤ 1000000000
    · rw [decide_eq_true h, decide_eq_false (by omega)]; rfl
    · rw [decide_eq_false h, decide_eq_true (by omega)]; rfl
  have HE := Lib.hid e
  clear e hx
  show Calls Try.prog 105 #[.int .i64 x] (w.drewN q) _
  go_enter Try.func105, Try.ntmps105
  go_wp2_with (go_at_call 70; (refine (hs.out _).mono ?_); rintro e w' ⟨rfl, rfl⟩)
  go_ret
  exact ⟨ret_bool HE.out, _, rfl⟩
/-- an entry of a relation matrix -/
def entryB (x : Int) : Bool := decide (-1000000 ≤ x ∧ x ≤ 1000000)
theorem pred42 (w : World) : PredW 42 #[] In64 (fun x => !entryB x) w := fun x q hx => by
  obtain ⟨h1, h2⟩ := hx
  show Calls Try.prog 42 #[.int .i64 x] (w.drewN q) _
  by_cases c1 : x < -1000000
  · have e : (!entryB x) = true := by unfold entryB; rw [decide_eq_false (by omega)]; rfl
    have HE := Lib.hid e
    clear e
    have d1 : decide (x < -1000000) = true := decide_eq_true c1
    go_enter Try.func42, Try.ntmps42
    go_wp2_with fail
    go_ret
    exact ⟨ret_bool HE.out.symm, _, rfl⟩
  · have d1 : decide (x < -1000000) = false := decide_eq_false c1
    have e : (!entryB x) = decide (1000000 < x) := by
      unfold entryB
      by_cases c2 : 1000000 < x
      · rw [decide_eq_false (by omega), decide_eq_true c2]; rfl
      · rw [decide_eq_true (by omega), decide_eq_false c2]; rfl
    have HE := Lib.hid e
    clear e
    go_enter Try.func42, Try.ntmps42
    go_wp2_with fail
    go_ret
    exact ⟨ret_bool HE.out.symm, _, rfl⟩
end Go.Proofs
namespace Go.Proofs
open Go.RowKit Go.Shelf Go.Proofs.Sm
/-- what the panic of the procedure carries -/
def failP : List PanicEntry := [{ v := .iface 83 (.agg #[]), recovered := false }]
def allRows (s : S) : List (List Int) := s.a ++ (s.u ++ s.v)
theorem fine_rows (s : S) : s.fine = (allRows s).all fun p => p.all small := by
  unfold S.fine allRows fineM
  rw [List.all_append, List.all_append]
theorem getD_app {α : Type} {d : α} (l m : List α) (i : Nat) : (l ++ m).getD i d = if i < l.length then l.getD i d else m.getD (i - l.length) d := by
  simp only [List.getD_eq_getElem?_getD, List.getElem?_append]
  split <;> rfl
section
variable {T b base : Nat} {w w' : World} {s : S} {x : Value} {vs : Nat → Value} {bl cs : Nat → Nat → Nat}
theorem rowsV_at (h : WkM T b base w s x vs bl cs) {k p : Nat} (hk : k < 3) (hp : p < (s.mat k).length) (hf : Fits ((s.mat k).getD p [])) : ∃ u, (rowsV s bl cs k)[p]? = some u ∧ IntsAt w u ((s.mat k).getD p []) := by
  obtain ⟨-, hX, h1, h2⟩ := h.row k p hk hp
  exact ⟨.slice (some ⟨bl k p, 0, none⟩) ((s.mat k).getD p []).length (cs k p), by simp only [rowsV, List.getElem?_map, List.getElem?_range hp, Option.map_some], hX.ints rfl h1 h2 hf⟩
theorem rows_three (h : WkM T b base w s x vs bl cs) (hf : ∀ y ∈ allRows s, Fits y) {p : Nat} (hp : p < (allRows s).length) : ∃ u, (rowsV s bl cs 0 ++ (rowsV s bl cs 1 ++ rowsV s bl cs 2))[p]? = some u ∧ IntsAt w u ((allRows s).getD p []) := by
  have e0 : s.mat 0 = s.a := rfl
  have e1 : s.mat 1 = s.u := rfl
  have e2 : s.mat 2 = s.v := rfl
  have hfp : ∀ {m : Mat} {i : Nat}, (∀ y ∈ m, y ∈ allRows s) → i < m.length → Fits (m.getD i []) := fun {m i} hm hi => hf _ (hm _ (by rw [List.getD_eq_getElem?_getD, List.getElem?_eq_getElem hi]; exact List.getElem_mem hi))
  unfold allRows at hp ⊢
  rw [getD_app, getD_app, List.getElem?_append, List.getElem?_append, rowsV_length, rowsV_length, e0, e1]
  simp only [List.length_append] at hp
  by_cases h1 : p < s.a.length
  · rw [if_pos h1, if_pos h1]
    exact rowsV_at h (k := 0) (by omega) h1 (hfp (m := s.a) (fun y hy => by simp [allRows, hy]) h1)
  · rw [if_neg h1, if_neg h1]
    by_cases h2 : p - s.a.length < s.u.length
    · rw [if_pos h2, if_pos h2]
      exact rowsV_at h (k := 1) (by omega) h2 (hfp (m := s.u) (fun y hy => by simp [allRows, hy]) h2)
    · rw [if_neg h2, if_neg h2]
      exact rowsV_at h (k := 2) (by omega) (show p - s.a.length - s.u.length < s.v.length by omega) (hfp (m := s.v) (fun y hy => by simp [allRows, hy]) (by omega))
/-- slices.Concat of a, u and v -/
theorem cat_three {r n B : Nat} (hr : r ≤ 100000) (hn : n ≤ 100000) (hs : Shape r n s) (h : WkM T b base w s x vs bl cs) (hb : Below w.heap.size w w') (hB : w'.heap[B]? = some (.cells #[vs 0, vs 1, vs 2] 22 (0, 0))) :
    Calls Try.prog 90 #[.slice (some ⟨B, 0, none⟩) 3 3] w' (ValsPost w'.heap.size (rowsV s bl cs 0 ++ (rowsV s bl cs 1 ++ rowsV s bl cs 2)) w') := by
  have hcat := concat90_any w' (.slice (some ⟨B, 0, none⟩) 3 3) [rowsV s bl cs 0, rowsV s bl cs 1, rowsV s bl cs 2]
    ⟨[vs 0, vs 1, vs 2], ⟨_, 3, 3, rfl, rfl, Nat.le_refl _, by simp [maxLen], fun _ => ⟨B, 0, rfl, fun j z hz => by
      rw [cell_of_row _ _ _ _ _ _ hB, Nat.zero_add]
      simpa using hz⟩⟩, rfl, fun i hi => by
      have h2 : i = 0 ∨ i = 1 ∨ i = 2 := by simp at hi; omega
      rcases h2 with rfl | rfl | rfl
      · exact ⟨vs 0, rfl, (h.slv (by omega)).below hb⟩
      · exact ⟨vs 1, rfl, (h.slv (by omega)).below hb⟩
      · exact ⟨vs 2, rfl, (h.slv (by omega)).below hb⟩⟩
    (by simp [catV, rowsV_length, show (s.mat 0).length = r from hs.ra.1, show (s.mat 1).length = r from hs.ru.1, show (s.mat 2).length = n from hs.rv.1]; omega)
  have e : catV [rowsV s bl cs 0, rowsV s bl cs 1, rowsV s bl cs 2] ([rowsV s bl cs 0, rowsV s bl cs 1, rowsV s bl cs 2] : List (List Value)).length = rowsV s bl cs 0 ++ (rowsV s bl cs 1 ++ rowsV s bl cs 2) := by simp [catV]
  rw [e] at hcat
  exact hcat
theorem cat_three_len : (rowsV s bl cs 0 ++ (rowsV s bl cs 1 ++ rowsV s bl cs 2)).length = (allRows s).length := by
  simp only [List.length_append, rowsV_length, allRows]; rfl
end
theorem below_one (w : World) (o : Obj) : Below w.heap.size w (w.alloc o).drew := below_drew ((Below.refl _ _).alloc (Nat.le_refl _) _)
theorem heap_one (w : World) (o : Obj) : (w.alloc o).drew.heap[w.heap.size]? = some o := heap_alloc_new w o
theorem all_of_getD {l : List (List Int)} {p : List Int → Bool} (h : ∀ j, j < l.length → p (l.getD j []) = true) : l.all p = true := by
  rw [List.all_eq_true]
  intro x hx
  obtain ⟨i, hi, rfl⟩ := List.getElem_of_mem hx
  have := h i hi
  rwa [List.getD_eq_getElem?_getD, List.getElem?_eq_getElem hi] at this
theorem any_not_small (l : List Int) : (l.any fun x => !small x) = !(l.all small) := by
  induction l with
  | nil => rfl
  | cons a l ih => simp only [List.any_cons, List.all_cons, ih, Bool.not_and]
def CheckPost (base : Nat) (f : Bool) (w : World) (e : Ending) (w' : World) : Prop := ((f = true ∧ e = .returned (.tuple #[])) ∨ (f = false ∧ e = .panicked failP)) ∧ Below base w w'
set_option maxRecDepth 100000 in
set_option maxHeartbeats 1000000 in
theorem check99_any (base b r n : Nat) (w : World) (s : S) (x : Value) (hs : Shape r n s) (hr : r ≤ 100000) (hn : n ≤ 100000) (hS : Wk 66 b base w s x) (hm : ∀ y ∈ allRows s, ∀ z ∈ y, Mid z) :
    Calls Try.prog 99 #[.pointer (some ⟨b, 0, none⟩)] w (CheckPost w.heap.size s.fine w) := by
  obtain ⟨vs, bl, cs, hM⟩ := hS
  obtain ⟨c0, c1, c2, c3, c4⟩ := hM.cells
  have hbl := hM.lt
  obtain ⟨A0, d0, hv0, -, -⟩ := hM.form (k := 0) (by omega)
  obtain ⟨A1, d1, hv1, -, -⟩ := hM.form (k := 1) (by omega)
  obtain ⟨A2, d2, hv2, -, -⟩ := hM.form (k := 2) (by omega)
  rw [show (s.mat 0).length = r from hs.ra.1] at hv0
  rw [show (s.mat 1).length = r from hs.ru.1] at hv1
  rw [show (s.mat 2).length = n from hs.rv.1] at hv2
  rw [hv0] at c0
  rw [hv1] at c1
  rw [hv2] at c2
  obtain ⟨N, hN⟩ : ∃ N, N = (allRows s).length := ⟨_, rfl⟩
  have HCAT : Hid (∀ w' B, Below w.heap.size w w' → w'.heap[B]? = some (.cells #[.slice A0 r d0, .slice A1 r d1, .slice A2 n d2] 22 (0, 0)) → Calls Try.prog 90 #[.slice (some ⟨B, 0, none⟩) 3 3] w' fun e w'' => ∃ A c, e = .returned (.slice A N c) ∧ w''.ownsRow w'.heap.size 25 1 (.slice A N c) N (rowsV s bl cs 0 ++ (rowsV s bl cs 1 ++ rowsV s bl cs 2)) ∧ Below w'.heap.size w' w'') :=
    Lib.hid fun w' B hb hB => (cat_three hr hn hs hM hb (by rw [hv0, hv1, hv2]; exact hB)).mono fun e w'' ⟨A, c, h1, h2, h3⟩ => ⟨A, c, by rw [h1, cat_three_len, hN], by rw [cat_three_len, ← hN] at h2; exact h2, h3⟩
  have HN := Lib.hid hN
  have hNb : (N : Int) ≤ 300000 := by
    have h1 := hs.ra.1
    have h2 := hs.ru.1
    have h3 := hs.rv.1
    have h4 : (allRows s).length = s.a.length + (s.u.length + s.v.length) := by simp [allRows]
    omega
  have HM := Lib.hid hM
  have HMID := Lib.hid hm
  have HFIT : Hid (∀ y ∈ allRows s, Fits y) := Lib.hid fun y hy z hz => by
    have h := hm y hy z hz
    obtain ⟨h1, h2⟩ := h
    omega
  have HFINE := Lib.hid (fine_rows s)
  clear hM hs c3 hv0 hv1 hv2 hN hm
  generalize s.fine = fb at *
  go_enter Try.func99, Try.ntmps99
  go_wp2_with fail
  go_region_held3 (fun w' => w'.cell? ⟨b, 0, none⟩ = some (.slice A0 r d0) ∧ w'.cell? ⟨b, 1, none⟩ = some (.slice A1 r d1) ∧ w'.cell? ⟨b, 2, none⟩ = some (.slice A2 n d2)) (first | (with_reducible exact HS1.out) | go_keep)
    ((go_at_call 90; (refine (HCAT.out _ _ (below_one _ _) (heap_one _ _)).mono ?_); rintro e w1 ⟨A, c, rfl, ho, hb⟩; have HO := Lib.hid ho; have HB := Lib.hid ((below_one _ _).trans (hb.mono (below_one _ _).size)); have HS1 : Hid (w1.cell? ⟨b, 0, none⟩ = some (.slice A0 r d0) ∧ w1.cell? ⟨b, 1, none⟩ = some (.slice A1 r d1) ∧ w1.cell? ⟨b, 2, none⟩ = some (.slice A2 n d2)) := Lib.hid ⟨(HB.out.cell (p := ⟨b, 0, none⟩) hbl).trans c0, (HB.out.cell (p := ⟨b, 1, none⟩) hbl).trans c1, (HB.out.cell (p := ⟨b, 2, none⟩) hbl).trans c2⟩; clear ho hb))
  clear HCAT HS1 c0 c1 c2 c4 hbl
  go_wp2_with fail
  go_loopw [19] (fun z wr => ∃ p : Nat, p ≤ N ∧ z = .int .i64 p ∧ Hid (∀ j, j < p → ((allRows s).getD j []).all small = true) ∧ ∃ q, wr = w1.drewN q) (fun z _ => N - (intOf z).toNat)
  case atStart => exact ⟨0, by omega, rfl, Lib.hid (fun j hj => absurd hj (by omega)), (by first | exact ⟨_, rfl⟩ | exact ⟨0, rfl⟩)⟩
  case round =>
    obtain ⟨p, hp, rfl, HZ, q, rfl⟩ := hrel
    have hp0 : (0 : Int) ≤ (p : Int) := Int.natCast_nonneg _
    by_cases hlt : p < N
    · have hlt' : (p : Int) < (N : Int) := by omega
      obtain ⟨g, c', e, -, hcell⟩ := owns_cells HO.out (by omega)
      obtain rfl : c = c' := by injection e
      obtain rfl : A = some ⟨g, 0, none⟩ := by injection e
      have hck := hcell p hlt
      have hpl : p < (allRows s).length := by rw [← HN.out]; exact hlt
      obtain ⟨u, hu, hI⟩ := rows_three (HM.out.below HB.out) HFIT.out hpl
      rw [hu] at hck
      have hmem : (allRows s).getD p [] ∈ allRows s := by rw [List.getD_eq_getElem?_getD, List.getElem?_eq_getElem hpl]; exact List.getElem_mem hpl
      have hcall := has41_any 105 #[] Mid (fun x => !small x) (w1.drewN q) eg105 (pred105 _) u _ (hI.drewN q) (HMID.out _ hmem)
      rw [any_not_small] at hcall
      clear hcell e hu hI
      cases hb : ((allRows s).getD p []).all small with
      | true =>
        rw [hb] at hcall
        have HC := Lib.hid hcall
        have HZ2 := Lib.hid (all_succ HZ.out hb)
        clear hcall hb hmem hpl HZ
        go_wp2_with (go_at_call 41; (refine HC.out.mono ?_); rintro e w' ⟨rfl, q', rfl⟩)
        go_roundw
        case rel => exact ⟨p + 1, by omega, by go_num, HZ2, (by first | exact ⟨_, rfl⟩ | exact ex_drewN)⟩
        case measure => simp [intOf]; omega
      | false =>
        rw [hb] at hcall
        have HC := Lib.hid hcall
        have HFB : Hid (fb = false) := Lib.hid (by
          rw [HFINE.out, List.all_eq_false]
          exact ⟨_, hmem, by rw [hb]; decide⟩)
        have HD : Hid (∀ q', Below w.heap.size w ((w1.drewN q).drewN q')) := Lib.hid fun q' => below_drewN (below_drewN HB.out q) q'
        clear hcall hb hmem hpl HZ
        go_wp2_with (go_at_call 41; (refine HC.out.mono ?_); rintro e w' ⟨rfl, q', rfl⟩)
        exact ⟨rfl, .inr ⟨HFB.out, rfl⟩, below_drewN HB.out _⟩
    · obtain rfl : p = N := by omega
      have HFB : Hid (fb = true) := Lib.hid (by rw [HFINE.out]; exact all_of_getD fun j hj => HZ.out j (by rw [HN.out]; exact hj))
      have HD : Hid (Below w.heap.size w (w1.drewN q)) := Lib.hid (below_drewN HB.out q)
      go_wp2_with fail
      go_end0
      exact ⟨.inl ⟨HFB.out, rfl⟩, HD.out⟩
end Go.Proofs
namespace Go.Proofs
open Go.RowKit Go.Shelf Go.Proofs.Sm
theorem rmany125_any (base b r n : Nat) (w : World) (s : S) (x : Value) (hs : Shape r n s) (hS : Wk 66 b base w s x) :
    Calls Try.prog 125 #[.agg #[.pointer (some ⟨b, 0, none⟩)]] w fun e w' => e = .returned (.int .i64 (r : Int)) ∧ Below w.heap.size w w' := by
  obtain ⟨vs, bl, cs, hM⟩ := hS
  obtain ⟨c0, c1, c2, c3, c4⟩ := hM.cells
  have hbl := hM.lt
  obtain ⟨A0, d0, hv0, -, -⟩ := hM.form (k := 0) (by omega)
  rw [show (s.mat 0).length = r from hs.ra.1] at hv0
  rw [hv0] at c0
  clear hM hs hv0 c1 c2 c3 c4
  go_enter Try.func125, Try.ntmps125
  go_wp2_with fail
  go_ret
  exact ⟨rfl, (Below.refl _ _).alloc (Nat.le_refl _) _⟩
theorem cmany128_any (base b r n : Nat) (w : World) (s : S) (x : Value) (hs : Shape r n s) (hS : Wk 66 b base w s x) :
    Calls Try.prog 128 #[.agg #[.pointer (some ⟨b, 0, none⟩)]] w fun e w' => e = .returned (.int .i64 (n : Int)) ∧ Below w.heap.size w w' := by
  obtain ⟨vs, bl, cs, hM⟩ := hS
  obtain ⟨c0, c1, c2, c3, c4⟩ := hM.cells
  have hbl := hM.lt
  obtain ⟨A2, d2, hv2, -, -⟩ := hM.form (k := 2) (by omega)
  rw [show (s.mat 2).length = n from hs.rv.1] at hv2
  rw [hv2] at c2
  clear hM hs hv2 c1 c0 c3 c4
  go_enter Try.func128, Try.ntmps128
  go_wp2_with fail
  go_ret
  exact ⟨rfl, (Below.refl _ _).alloc (Nat.le_refl _) _⟩
set_option maxRecDepth 100000 in
theorem rentry124_any (base b r n i : Nat) (w : World) (s : S) (hs : Shape r n s) (hi : i < r) (ht : s.t < n) (hS : Wk 66 b base w s (.int .i64 (s.t : Int))) :
    Calls Try.prog 124 #[.agg #[.pointer (some ⟨b, 0, none⟩)], .int .i64 (i : Int)] w fun e w' => e = .returned (.int .i64 (ent s.a i s.t)) ∧ Below w.heap.size w w' := by
  obtain ⟨vs, bl, cs, hM⟩ := hS
  obtain ⟨c0, c1, c2, c3, c4⟩ := hM.cells
  have hbl := hM.lt
  have hl : (s.mat 0).length = r := hs.ra.1
  have hrl : ((s.mat 0).getD i []).length = n := rect_row hs.ra hi
  obtain ⟨g, d, hv, h1, -, -⟩ := hM.row_at (k := 0) (i := i) (by omega) (by rw [hl]; exact hi)
  obtain ⟨h2, -⟩ := hM.ent_at (k := 0) (i := i) (j := s.t) (by omega) (by rw [hl]; exact hi) (by rw [hrl]; exact ht)
  have hgl : g < w.heap.size := World.block_lt_of_cell? w _ h1
  have hbl2 := World.block_lt_of_cell? w _ h2
  rw [hrl] at h1
  rw [hv, hl] at c0
  have e : ent (s.mat 0) i s.t = ent s.a i s.t := rfl
  rw [e] at h2
  clear hM hs hv hl hrl c1 c2 c4 e
  generalize ent s.a i s.t = z at *
  generalize s.t = t at *
  have hi0 : (0 : Int) ≤ (i : Int) := Int.natCast_nonneg _
  have ht0 : (0 : Int) ≤ (t : Int) := Int.natCast_nonneg _
  have hi1 : (i : Int) < (r : Int) := by omega
  have ht1 : (t : Int) < (n : Int) := by omega
  go_enter Try.func124, Try.ntmps124
  go_wp2_with fail
  go_quiet (fail)
  go_wp2_with fail
  go_ret
  exact ⟨rfl, below_drewN ((Below.refl _ _).alloc (Nat.le_refl _) _) _⟩
set_option maxRecDepth 100000 in
theorem centry127_any (base b r n j : Nat) (w : World) (s : S) (hs : Shape r n s) (hj : j < n) (ht : s.t < r) (hS : Wk 66 b base w s (.int .i64 (s.t : Int))) :
    Calls Try.prog 127 #[.agg #[.pointer (some ⟨b, 0, none⟩)], .int .i64 (j : Int)] w fun e w' => e = .returned (.int .i64 (ent s.a s.t j)) ∧ Below w.heap.size w w' := by
  obtain ⟨vs, bl, cs, hM⟩ := hS
  obtain ⟨c0, c1, c2, c3, c4⟩ := hM.cells
  have hbl := hM.lt
  have hl : (s.mat 0).length = r := hs.ra.1
  have hrl : ((s.mat 0).getD s.t []).length = n := rect_row hs.ra ht
  obtain ⟨g, d, hv, h1, -, -⟩ := hM.row_at (k := 0) (i := s.t) (by omega) (by rw [hl]; exact ht)
  obtain ⟨h2, -⟩ := hM.ent_at (k := 0) (i := s.t) (j := j) (by omega) (by rw [hl]; exact ht) (by rw [hrl]; exact hj)
  have hgl : g < w.heap.size := World.block_lt_of_cell? w _ h1
  have hbl2 := World.block_lt_of_cell? w _ h2
  rw [hrl] at h1
  rw [hv, hl] at c0
  have e : ent (s.mat 0) s.t j = ent s.a s.t j := rfl
  rw [e] at h2
  clear hM hs hv hl hrl c1 c2 c4 e
  generalize ent s.a s.t j = z at *
  generalize s.t = t at *
  have hj0 : (0 : Int) ≤ (j : Int) := Int.natCast_nonneg _
  have ht0 : (0 : Int) ≤ (t : Int) := Int.natCast_nonneg _
  have hj1 : (j : Int) < (n : Int) := by omega
  have ht1 : (t : Int) < (r : Int) := by omega
  go_enter Try.func127, Try.ntmps127
  go_wp2_with fail
  go_quiet (fail)
  go_wp2_with fail
  go_ret
  exact ⟨rfl, below_drewN ((Below.refl _ _).alloc (Nat.le_refl _) _) _⟩
end Go.Proofs
namespace Go.Proofs
open Go.RowKit Go.Shelf Go.Proofs.Sm
theorem tdiv_small {x y : Int} (hx : -1000000000 ≤ x ∧ x ≤ 1000000000) : -1000000000 ≤ x.tdiv y ∧ x.tdiv y ≤ 1000000000 := by
  have := Int.natAbs_tdiv_le_natAbs x y
  omega
theorem step_small {x y q : Int} (hx : -1000000000 ≤ x ∧ x ≤ 1000000000) (hy : -1000000000 ≤ y ∧ y ≤ 1000000000) (hq : -1000000000 ≤ q ∧ q ≤ 1000000000) : In64 x ∧ In64 y ∧ In64 (-q * y) ∧ In64 (x + -q * y) ∧ Mid (x + -q * y) := by
  have h := mul_bd (X := 1000000000) (Y := 1000000000) (x := -q) (y := y) (by omega) hy
  unfold In64 Mid
  generalize -q * y = z at *
  omega
theorem mid_rows {s : S} (ha : ∀ i j, Mid (ent s.a i j)) (hu : ∀ i j, Mid (ent s.u i j)) (hv : ∀ i j, Mid (ent s.v i j)) : ∀ y ∈ allRows s, ∀ z ∈ y, Mid z := by
  have key : ∀ m : Mat, (∀ i j, Mid (ent m i j)) → ∀ y ∈ m, ∀ z ∈ y, Mid z := fun m h y hy z hz => by
    obtain ⟨i, hi, rfl⟩ := List.getElem_of_mem hy
    obtain ⟨j, hj, rfl⟩ := List.getElem_of_mem hz
    have := h i j
    unfold ent at this
    rw [List.getD_eq_getElem?_getD (l := m), List.getElem?_eq_getElem hi] at this
    simpa [List.getD_eq_getElem?_getD, List.getElem?_eq_getElem hj] using this
  intro y hy
  unfold allRows at hy
  rw [List.mem_append, List.mem_append] at hy
  rcases hy with hy | hy | hy
  · exact key _ ha y hy
  · exact key _ hu y hy
  · exact key _ hv y hy
section
variable {r n : Nat} {s : S}
theorem Sm.Base.bda (h : Base r n s) (i j : Nat) : -1000000000 ≤ ent s.a i j ∧ ent s.a i j ≤ 1000000000 := fineM_iff.1 h.fa i j
theorem Sm.Base.bdu (h : Base r n s) (i j : Nat) : -1000000000 ≤ ent s.u i j ∧ ent s.u i j ≤ 1000000000 := fineM_iff.1 h.fu i j
theorem Sm.Base.bdv (h : Base r n s) (i j : Nat) : -1000000000 ≤ ent s.v i j ∧ ent s.v i j ≤ 1000000000 := fineM_iff.1 h.fv i j
theorem mid_of {x : Int} (h : -1000000000 ≤ x ∧ x ≤ 1000000000) : Mid x := by unfold Mid; omega
/-- the state behind some rounds of a clearing of rows -/
theorem dn_round (h : Piv r n s) {i : Nat} (hi : s.t + 1 ≤ i) (hr : i < r) : let σ := upto S.dn s (s.t + 1) i
    Shape r n σ ∧ ent σ.a i s.t = ent s.a i s.t ∧ ent σ.a s.t s.t = ent s.a s.t s.t ∧ upto S.dn s (s.t + 1) (i + 1) = σ.addR i s.t (-qR s i) ∧ FitR σ.a i s.t (-qR s i) ∧ FitR σ.u i s.t (-qR s i) ∧ (qR s i = 0 → upto S.dn s (s.t + 1) (i + 1) = σ) ∧ σ.t = s.t := by
  intro σ
  have hd : Dn r n s σ i := dn_upto h.sh h.ltr i hi (by omega)
  have e1 : ent σ.a i s.t = ent s.a i s.t := by rw [hd.a, if_neg (by omega)]
  have e2 : ent σ.a s.t s.t = ent s.a s.t s.t := by rw [hd.a, if_neg (by omega)]
  have e3 : upto S.dn s (s.t + 1) (i + 1) = σ.addR i s.t (-qR s i) := by
    rw [upto_succ _ _ hi]
    show σ.dn i = _
    unfold S.dn qR
    rw [hd.t, e1, e2]
  have hq : -1000000000 ≤ qR s i ∧ qR s i ≤ 1000000000 := tdiv_small (h.bda _ _)
  refine ⟨hd.sh, e1, e2, e3, fun j => ?_, fun j => ?_, fun h0 => ?_, hd.t⟩
  · rw [hd.a i j, hd.a s.t j, if_neg (by omega), if_neg (by omega)]
    obtain ⟨a, b, c, d, -⟩ := step_small (h.bda i j) (h.bda s.t j) hq
    exact ⟨a, b, c, d⟩
  · rw [hd.u i j, hd.u s.t j, if_neg (by omega), if_neg (by omega)]
    obtain ⟨a, b, c, d, -⟩ := step_small (h.bdu i j) (h.bdu s.t j) hq
    exact ⟨a, b, c, d⟩
  · rw [e3, h0]
    show S.mk (Sm.addR σ.a i s.t (-0)) (Sm.addR σ.u i s.t (-0)) σ.v σ.t = σ
    rw [Int.neg_zero, addR_zero hd.sh.ra hr h.ltr, addR_zero hd.sh.ru hr h.ltr]
theorem mid_down (h : Piv r n s) : ∀ y ∈ allRows (s.down r), ∀ z ∈ y, Mid z := by
  have hd := down_at h
  refine mid_rows (fun i j => ?_) (fun i j => ?_) (fun i j => by rw [hd.v]; exact mid_of (h.bdv i j))
  · rw [hd.a]
    split
    · exact (step_small (h.bda i j) (h.bda s.t j) (tdiv_small (h.bda _ _))).2.2.2.2
    · exact mid_of (h.bda i j)
  · rw [hd.u]
    split
    · exact (step_small (h.bdu i j) (h.bdu s.t j) (tdiv_small (h.bda _ _))).2.2.2.2
    · exact mid_of (h.bdu i j)
theorem ac_round (h : Acr r n s) {j : Nat} (hj : s.t + 1 ≤ j) (hn : j < n) : let σ := upto S.ac s (s.t + 1) j
    Shape r n σ ∧ ent σ.a s.t j = ent s.a s.t j ∧ ent σ.a s.t s.t = ent s.a s.t s.t ∧ upto S.ac s (s.t + 1) (j + 1) = σ.addC j s.t (-qC s j) ∧ FitC σ.a j s.t (-qC s j) ∧ FitC σ.v j s.t (-qC s j) ∧ (qC s j = 0 → upto S.ac s (s.t + 1) (j + 1) = σ) ∧ σ.t = s.t := by
  intro σ
  have hd : Ac r n s σ j := ac_upto h.sh h.ltn j hj (by omega)
  have e1 : ent σ.a s.t j = ent s.a s.t j := by rw [hd.a, if_neg (by omega)]
  have e2 : ent σ.a s.t s.t = ent s.a s.t s.t := by rw [hd.a, if_neg (by omega)]
  have e3 : upto S.ac s (s.t + 1) (j + 1) = σ.addC j s.t (-qC s j) := by
    rw [upto_succ _ _ hj]
    show σ.ac j = _
    unfold S.ac qC
    rw [hd.t, e1, e2]
  have hq : -1000000000 ≤ qC s j ∧ qC s j ≤ 1000000000 := tdiv_small (h.bda _ _)
  refine ⟨hd.sh, e1, e2, e3, fun i => ?_, fun i => ?_, fun h0 => ?_, hd.t⟩
  · rw [hd.a i j, hd.a i s.t, if_neg (by omega), if_neg (by omega)]
    obtain ⟨a, b, c, d, -⟩ := step_small (h.bda i j) (h.bda i s.t) hq
    exact ⟨a, b, c, d⟩
  · rw [hd.v i j, hd.v i s.t, if_neg (by omega), if_neg (by omega)]
    obtain ⟨a, b, c, d, -⟩ := step_small (h.bdv i j) (h.bdv i s.t) hq
    exact ⟨a, b, c, d⟩
  · rw [e3, h0]
    show S.mk (Sm.addC σ.a j s.t (-0)) σ.u (Sm.addC σ.v j s.t (-0)) σ.t = σ
    rw [Int.neg_zero, addC_zero hd.sh.ra hn, addC_zero hd.sh.rv hn]
theorem mid_across (h : Acr r n s) : ∀ y ∈ allRows (s.across n), ∀ z ∈ y, Mid z := by
  have hd := across_at h.toPiv
  refine mid_rows (fun i j => ?_) (fun i j => by rw [hd.u]; exact mid_of (h.bdu i j)) (fun i j => ?_)
  · rw [hd.a]
    split
    · exact (step_small (h.bda i j) (h.bda i s.t) (tdiv_small (h.bda _ _))).2.2.2.2
    · exact mid_of (h.bda i j)
  · rw [hd.v]
    split
    · exact (step_small (h.bdv i j) (h.bdv i s.t) (tdiv_small (h.bda _ _))).2.2.2.2
    · exact mid_of (h.bdv i j)
end
theorem m_rmany (a : Addr) (w : World) : (method 249 101 (.agg #[.pointer (some a)]) "cayley/smith.many").run Try.prog w = .ok (125, .agg #[.pointer (some a)]) w := by kernel_rfl
theorem m_rentry (a : Addr) (w : World) : (method 249 101 (.agg #[.pointer (some a)]) "cayley/smith.entry").run Try.prog w = .ok (124, .agg #[.pointer (some a)]) w := by kernel_rfl
theorem m_radd (a : Addr) (w : World) : (method 249 101 (.agg #[.pointer (some a)]) "cayley/smith.add").run Try.prog w = .ok (106, .agg #[.pointer (some a)]) w := by kernel_rfl
theorem m_cmany (a : Addr) (w : World) : (method 249 103 (.agg #[.pointer (some a)]) "cayley/smith.many").run Try.prog w = .ok (128, .agg #[.pointer (some a)]) w := by kernel_rfl
theorem m_centry (a : Addr) (w : World) : (method 249 103 (.agg #[.pointer (some a)]) "cayley/smith.entry").run Try.prog w = .ok (127, .agg #[.pointer (some a)]) w := by kernel_rfl
theorem m_cadd (a : Addr) (w : World) : (method 249 103 (.agg #[.pointer (some a)]) "cayley/smith.add").run Try.prog w = .ok (126, .agg #[.pointer (some a)]) w := by kernel_rfl
/-- what a clearing reads: the receiver's box, the matrix, the place, its row, its entry -/
abbrev Seen (Q b t r n g d bt ct : Nat) (y : Int) (W : World) : Prop :=
  W.cell? ⟨Q, 0, none⟩ = some (.pointer (some ⟨b, 0, none⟩)) ∧ W.cell? ⟨b, 0, none⟩ = some (.slice (some ⟨g, 0, none⟩) r d) ∧ W.cell? ⟨b, 3, none⟩ = some (.int .i64 (t : Int)) ∧ W.cell? ⟨g, t, none⟩ = some (.slice (some ⟨bt, 0, none⟩) n ct) ∧ W.cell? ⟨bt, t, none⟩ = some (.int .i64 y)
theorem seen_below {Q b t r n g d bt ct : Nat} {y : Int} {W W' : World} (h : Seen Q b t r n g d bt ct y W) (hb : Below W.heap.size W W') : Seen Q b t r n g d bt ct y W' := by
  obtain ⟨h1, h2, h3, h4, h5⟩ := h
  exact ⟨(hb.cell (World.block_lt_of_cell? W _ h1)).trans h1, (hb.cell (World.block_lt_of_cell? W _ h2)).trans h2, (hb.cell (World.block_lt_of_cell? W _ h3)).trans h3, (hb.cell (World.block_lt_of_cell? W _ h4)).trans h4, (hb.cell (World.block_lt_of_cell? W _ h5)).trans h5⟩
theorem Wk.seen {T b base Q r n : Nat} {W : World} {s : S} {z : Int} {t : Nat} (hW : Wk T b base W s (.int .i64 z)) (hz : z = (t : Int)) (hs : Shape r n s) (htr : t < r) (htn : t < n) (hq : W.cell? ⟨Q, 0, none⟩ = some (.pointer (some ⟨b, 0, none⟩))) : ∃ g d bt ct, Seen Q b t r n g d bt ct (ent s.a t t) W ∧ n ≤ ct ∧ ct ≤ 9223372036854775807 ∧ r ≤ d ∧ d ≤ 9223372036854775807 := by
  obtain ⟨vs, bl, cs, hM⟩ := hW
  obtain ⟨c0, c1, c2, c3, c4⟩ := hM.cells
  have hl : (s.mat 0).length = r := hs.ra.1
  have hrl : ((s.mat 0).getD t []).length = n := rect_row hs.ra htr
  obtain ⟨g, d, hv, h1, -, -⟩ := hM.row_at (k := 0) (i := t) (by omega) (by rw [hl]; exact htr)
  obtain ⟨h2, -⟩ := hM.ent_at (k := 0) (i := t) (j := t) (by omega) (by rw [hl]; exact htr) (by rw [hrl]; exact htn)
  obtain ⟨-, -, h3, h4⟩ := hM.row 0 t (by omega) (by rw [hl]; exact htr)
  obtain ⟨A, c, hf, h5, h6⟩ := hM.form (k := 0) (by omega)
  rw [hrl] at h1 h3
  rw [hv, hl] at c0
  rw [hv, hl] at hf
  rw [hl] at h5
  have hcd : d = c := by injection hf
  subst hcd
  exact ⟨g, d, bl 0 t, cs 0 t, ⟨hq, c0, by rw [c3, hz], h1, h2⟩, h3, h4, h5, h6⟩
set_option maxRecDepth 100000 in
set_option maxHeartbeats 1000000 in
theorem clear91_any (base b r n : Nat) (w : World) (s : S) (hp : Piv r n s) (hr : r ≤ 100000) (hn : n ≤ 100000) (hS : Wk 66 b base w s (.int .i64 (s.t : Int))) (hbw : base ≤ w.heap.size) :
    Calls Try.prog 91 #[.pointer (some ⟨b, 0, none⟩), .agg #[.pointer (some ⟨b, 0, none⟩)]] w fun e w' => (((s.down r).fine = true ∧ e = .returned (.tuple #[]) ∧ Wk 66 b base w' (s.down r) (.int .i64 (s.t : Int))) ∨ ((s.down r).fine = false ∧ e = .panicked failP)) ∧ Ch base w w' := by
  have hc3 : w.cell? ⟨b, 3, none⟩ = some (.int .i64 (s.t : Int)) := by obtain ⟨vs, bl, cs, hM⟩ := hS; exact hM.cells.2.2.2.1
  have hbl : b < w.heap.size := World.block_lt_of_cell? w _ hc3
  have ht := hp.ltr
  have htn := hp.ltn
  have HS := Lib.hid hS
  have HP := Lib.hid hp
  clear hS hp
  obtain ⟨t, hst⟩ : ∃ t, t = s.t := ⟨_, rfl⟩
  rw [← hst] at ht htn hc3
  have HT := Lib.hid hst
  rw [← hst]
  clear hst
  have ht0 : (0 : Int) ≤ (t : Int) := Int.natCast_nonneg _
  have ht1 : (t : Int) + 1 ≤ 100001 := by omega
  have hm1 := m_rmany ⟨b, 0, none⟩
  have hm2 := m_rentry ⟨b, 0, none⟩
  have hm3 := m_radd ⟨b, 0, none⟩
  go_enter Try.func91, Try.ntmps91
  go_wp2_with fail
  go_loopw [4] (fun z wr => ∃ i : Nat, t + 1 ≤ i ∧ i ≤ r ∧ z = .int .i64 i ∧ Hid (Wk 66 b base wr (upto S.dn s (t + 1) i) (.int .i64 (t : Int)) ∧ Ch base w wr ∧ wr.heap[w.heap.size]? = some (.cells #[.pointer (some ⟨b, 0, none⟩)] 101 (0, 0)))) (fun z _ => r - (intOf z).toNat)
  case atStart => exact ⟨t + 1, by omega, by omega, by go_num, Lib.hid ⟨by rw [upto_self, HT.out]; exact HS.out.below ((Below.refl _ _).alloc (Nat.le_refl _) _), Ch.of_below hbw ((Below.refl _ _).alloc (Nat.le_refl _) _), heap_alloc_new w _⟩⟩
  case round =>
    obtain ⟨i, hi1, hi2, rfl, HR⟩ := hrel
    have hi0 : (0 : Int) ≤ (i : Int) := Int.natCast_nonneg _
    have hbx : wr.cell? ⟨w.heap.size, 0, none⟩ = some (.pointer (some ⟨b, 0, none⟩)) := by rw [cell_of_row _ _ _ _ _ _ HR.out.2.2]; rfl
    have HSH : Hid (Shape r n (upto S.dn s (t + 1) i)) := Lib.hid (by rw [HT.out]; rw [HT.out] at hi1; exact (dn_upto HP.out.sh HP.out.ltr i hi1 hi2).sh)
    have HMANY := Lib.hid (rmany125_any base b r n wr _ _ HSH.out HR.out.1)
    by_cases hlt : i < r
    · have hlt' : (i : Int) < (r : Int) := by omega
      obtain ⟨RS, Re1, Re2, Re3, Rf1, Rf2, Rz, Rt⟩ := dn_round HP.out (i := i) (by rw [← HT.out]; exact hi1) hlt
      rw [← HT.out] at RS Re1 Re2 Re3 Rf1 Rf2 Rz Rt
      have hpiv := HP.out.piv
      have hbt := HP.out.toBase.bda i t
      rw [← HT.out] at hpiv
      have HQDEF : Hid (qR s i = (ent s.a i t).tdiv (ent s.a t t)) := Lib.hid (by unfold qR; rw [← HT.out])
      have HRS := Lib.hid RS
      have HR3 := Lib.hid Re3
      have HF1 := Lib.hid Rf1
      have HF2 := Lib.hid Rf2
      have HRZ := Lib.hid Rz
      have HRT := Lib.hid Rt
      have HENT : Hid (∀ W, Below wr.heap.size wr W → Calls Try.prog 124 #[.agg #[.pointer (some ⟨b, 0, none⟩)], .int .i64 (i : Int)] W fun e w' => e = .returned (.int .i64 (ent s.a i t)) ∧ Below W.heap.size W w') := Lib.hid fun W hb => by
        have h := rentry124_any base b r n i W (upto S.dn s (t + 1) i) RS hlt (by rw [Rt]; exact htn) (by rw [Rt]; exact HR.out.1.below hb)
        rw [Rt, Re1] at h
        exact h
      have hq1 := (tdiv_small (y := ent s.a t t) hbt).1
      have hq2 := (tdiv_small (y := ent s.a t t) hbt).2
      obtain ⟨g, d, bt, ct, hseen, hct1, hct2, hd1, hd2⟩ := HR.out.1.seen rfl RS ht htn hbx
      rw [Re2] at hseen
      have HSEEN := Lib.hid hseen
      clear RS Re1 Re2 Re3 Rf1 Rf2 Rz Rt hseen hbx
      generalize hx : ent s.a i t = x at *
      generalize hy : ent s.a t t = y at *
      clear hx hy
      have hw1 : IntKind.i64.wrap (x.tdiv y) = x.tdiv y := IntWalk.i64_in _ (by omega)
      have hy0 : (y == 0) = false := by simpa using hpiv
      obtain ⟨s1, s2, s3, s4, s5⟩ := HSEEN.out
      go_wp2_with (go_at_call 125; (with_reducible refine HMANY.out.mono ?_); rintro e w1 ⟨rfl, hb1⟩; have HB1 := Lib.hid hb1; clear hb1)
      clear s1 s2 s3 s4 s5
      obtain ⟨s1, s2, s3, s4, s5⟩ := seen_below HSEEN.out HB1.out
      have HS1 := Lib.hid (seen_below HSEEN.out (below_drew HB1.out))
      go_region_held3 (Seen w.heap.size b t r n g d bt ct y) (first | (with_reducible exact HS2.out) | (with_reducible exact HS1.out) | go_keep)
        ((go_at_call 124; (refine (HENT.out _ (below_drew HB1.out)).mono ?_); rintro e w2 ⟨rfl, hb2⟩; have HB2 := Lib.hid ((below_drew HB1.out).trans (hb2.mono (below_drew HB1.out).size)); have HS2 := Lib.hid (seen_below HSEEN.out HB2.out); clear hb2))
      clear s1 s2 s3 s4 s5
      obtain ⟨s1, s2, s3, s4, s5⟩ := HS2.out
      have HBX : Hid (w2.heap[w.heap.size]? = some (.cells #[.pointer (some ⟨b, 0, none⟩)] 101 (0, 0))) := Lib.hid ((HB2.out.block _ (Array.getElem?_eq_some_iff.1 HR.out.2.2).1).trans HR.out.2.2)
      have HCH2 := Lib.hid (HR.out.2.1.trans (Ch.of_below (Nat.le_trans hbw HR.out.2.1.size) HB2.out))
      generalize x.tdiv y = q at *
      by_cases hq0 : q = 0
      · have HNEW : Hid (Wk 66 b base w2 (upto S.dn s (t + 1) (i + 1)) (.int .i64 (t : Int))) := Lib.hid (by rw [HRZ.out (by rw [HQDEF.out, hq0])]; exact HR.out.1.below HB2.out)
        have hd1' : (q != 0) = false := by simpa using hq0
        clear hq0
        go_wp2_with fail
        go_roundw
        case rel => exact ⟨i + 1, by omega, by omega, by go_num, Lib.hid ⟨HNEW.out, HCH2.out, HBX.out⟩⟩
        case measure => simp [intOf]; omega
      · have hd1' : (q != 0) = true := by simpa using hq0
        have HADD : Hid (∀ W, Below wr.heap.size wr W → Calls Try.prog 106 #[.agg #[.pointer (some ⟨b, 0, none⟩)], .int .i64 (i : Int), .int .i64 (t : Int), .int .i64 (-q)] W fun e w' => e = .returned (.tuple #[]) ∧ Wk 66 b base w' (upto S.dn s (t + 1) (i + 1)) (.int .i64 (t : Int)) ∧ Ch base W w') := Lib.hid fun W hb => by
          have h := radd106_any base b i t r n (-q) W (upto S.dn s (t + 1) i) (.int .i64 (t : Int)) HRS.out hlt ht (by omega) (by omega) (HR.out.1.below hb) (Nat.le_trans hbw (Nat.le_trans HR.out.2.1.size hb.size)) (by rw [← HQDEF.out]; exact HF1.out) (by rw [← HQDEF.out]; exact HF2.out)
          rw [HQDEF.out] at HR3
          rw [← HR3.out] at h
          exact h
        have hwn : IntKind.i64.wrap (-q) = -q := IntWalk.i64_in _ (by omega)
        have HS5 := Lib.hid (seen_below HSEEN.out (below_drew HB2.out))
        have HS6 : Hid (w2.drew.cell? ⟨w.heap.size, 0, none⟩ = some (.pointer (some ⟨b, 0, none⟩)) ∧ w2.drew.cell? ⟨b, 3, none⟩ = some (.int .i64 (t : Int))) := Lib.hid ⟨HS5.out.1, HS5.out.2.2.1⟩
        clear hq0 s2 s4 s5
        go_wp2_with fail
        go_region_held3 (fun W => W.cell? ⟨w.heap.size, 0, none⟩ = some (.pointer (some ⟨b, 0, none⟩)) ∧ W.cell? ⟨b, 3, none⟩ = some (.int .i64 (t : Int))) (first | (with_reducible exact HS7.out) | (with_reducible exact HS6.out) | go_keep)
          ((go_at_call 106; (refine (HADD.out _ (below_drew HB2.out)).mono ?_); rintro e w3 ⟨rfl, hw3, hch⟩; have HW3 := Lib.hid hw3; have HCH3 := Lib.hid (HCH2.out.trans ((Ch.refl base w2).drew.trans hch)); have HBX3 : Hid (w3.heap[w.heap.size]? = some (.cells #[.pointer (some ⟨b, 0, none⟩)] 101 (0, 0))) := Lib.hid ((hch.keep _ _ _ HBX.out (by decide) (by decide) (by decide) (by decide)).trans HBX.out); have HS7 : Hid (w3.cell? ⟨w.heap.size, 0, none⟩ = some (.pointer (some ⟨b, 0, none⟩)) ∧ w3.cell? ⟨b, 3, none⟩ = some (.int .i64 (t : Int))) := Lib.hid ⟨by rw [cell_of_row _ _ _ _ _ _ HBX3.out]; rfl, by obtain ⟨vs, bl, cs, hM⟩ := hw3; exact hM.cells.2.2.2.1⟩; clear hw3 hch))
        go_wp2_with fail
        go_roundw
        case rel => exact ⟨i + 1, by omega, by omega, by go_num, Lib.hid ⟨HW3.out, HCH3.out, HBX3.out⟩⟩
        case measure => simp [intOf]; omega
    · obtain rfl : i = r := by omega
      have hdn : upto S.dn s (t + 1) i = s.down i := by unfold S.down; rw [HT.out]
      have HCK : Hid (∀ W, Below wr.heap.size wr W → Calls Try.prog 99 #[.pointer (some ⟨b, 0, none⟩)] W (CheckPost W.heap.size (s.down i).fine W)) := Lib.hid fun W hb => check99_any base b i n W (s.down i) (.int .i64 (t : Int)) (by rw [← hdn]; exact HSH.out) hr hn (by rw [← hdn]; exact HR.out.1.below hb) (mid_down HP.out)
      have HWD : Hid (∀ W, Below wr.heap.size wr W → Wk 66 b base W (s.down i) (.int .i64 (t : Int))) := Lib.hid fun W hb => by rw [← hdn]; exact HR.out.1.below hb
      clear hdn
      cases hf : (s.down i).fine with
      | true =>
        have HCK2 : Hid (∀ W, Below wr.heap.size wr W → Calls Try.prog 99 #[.pointer (some ⟨b, 0, none⟩)] W fun e w' => e = .returned (.tuple #[]) ∧ Below W.heap.size W w') := Lib.hid fun W hb => (HCK.out W hb).mono fun e w' h1 => ⟨by
          obtain ⟨h, -⟩ := h1
          rcases h with ⟨-, h⟩ | ⟨h, -⟩
          · exact h
          · exact absurd (hf.symm.trans h) (by decide), h1.2⟩
        clear HCK
        have HF := Lib.hid hf
        clear hf
        go_wp2_with (first
          | (go_at_call 125; (with_reducible refine HMANY.out.mono ?_); rintro e w1 ⟨rfl, hb1⟩; have HB1 := Lib.hid hb1; clear hb1)
          | (go_at_call 99; (refine (HCK2.out _ HB1.out).mono ?_); rintro e w2 ⟨rfl, hb2⟩; have HB2 := Lib.hid (HB1.out.trans (hb2.mono HB1.out.size)); clear hb2))
        go_end0
        exact ⟨.inl ⟨HF.out, rfl, HWD.out _ HB2.out⟩, HR.out.2.1.trans (Ch.of_below (Nat.le_trans hbw HR.out.2.1.size) HB2.out)⟩
      | false =>
        have HCK2 : Hid (∀ W, Below wr.heap.size wr W → Calls Try.prog 99 #[.pointer (some ⟨b, 0, none⟩)] W fun e w' => e = .panicked failP ∧ Below W.heap.size W w') := Lib.hid fun W hb => (HCK.out W hb).mono fun e w' h1 => ⟨by
          obtain ⟨h, -⟩ := h1
          rcases h with ⟨h, -⟩ | ⟨-, h⟩
          · exact absurd (hf.symm.trans h) (by decide)
          · exact h, h1.2⟩
        clear HCK
        have HF := Lib.hid hf
        clear hf
        go_wp2_with (first
          | (go_at_call 125; (with_reducible refine HMANY.out.mono ?_); rintro e w1 ⟨rfl, hb1⟩; have HB1 := Lib.hid hb1; clear hb1)
          | (go_at_call 99; (refine (HCK2.out _ HB1.out).mono ?_); rintro e w2 ⟨rfl, hb2⟩; have HB2 := Lib.hid (HB1.out.trans (hb2.mono HB1.out.size)); clear hb2))
        exact ⟨rfl, .inr ⟨HF.out, rfl⟩, HR.out.2.1.trans (Ch.of_below (Nat.le_trans hbw HR.out.2.1.size) HB2.out)⟩
end Go.Proofs
namespace Go.Proofs
open Go.RowKit Go.Shelf Go.Proofs.Sm
set_option maxRecDepth 100000 in
set_option maxHeartbeats 1000000 in
theorem clear100_any (base b r n : Nat) (w : World) (s : S) (hp : Acr r n s) (hr : r ≤ 100000) (hn : n ≤ 100000) (hS : Wk 66 b base w s (.int .i64 (s.t : Int))) (hbw : base ≤ w.heap.size) :
    Calls Try.prog 100 #[.pointer (some ⟨b, 0, none⟩), .agg #[.pointer (some ⟨b, 0, none⟩)]] w fun e w' => (((s.across n).fine = true ∧ e = .returned (.tuple #[]) ∧ Wk 66 b base w' (s.across n) (.int .i64 (s.t : Int))) ∨ ((s.across n).fine = false ∧ e = .panicked failP)) ∧ Ch base w w' := by
  have hc3 : w.cell? ⟨b, 3, none⟩ = some (.int .i64 (s.t : Int)) := by obtain ⟨vs, bl, cs, hM⟩ := hS; exact hM.cells.2.2.2.1
  have hbl : b < w.heap.size := World.block_lt_of_cell? w _ hc3
  have ht := hp.ltr
  have htn := hp.ltn
  have HS := Lib.hid hS
  have HP := Lib.hid hp
  clear hS hp
  obtain ⟨t, hst⟩ : ∃ t, t = s.t := ⟨_, rfl⟩
  rw [← hst] at ht htn hc3
  have HT := Lib.hid hst
  rw [← hst]
  clear hst
  have ht0 : (0 : Int) ≤ (t : Int) := Int.natCast_nonneg _
  have ht1 : (t : Int) + 1 ≤ 100001 := by omega
  have hm1 := m_cmany ⟨b, 0, none⟩
  have hm2 := m_centry ⟨b, 0, none⟩
  have hm3 := m_cadd ⟨b, 0, none⟩
  go_enter Try.func100, Try.ntmps100
  go_wp2_with fail
  go_loopw [4] (fun z wr => ∃ i : Nat, t + 1 ≤ i ∧ i ≤ n ∧ z = .int .i64 i ∧ Hid (Wk 66 b base wr (upto S.ac s (t + 1) i) (.int .i64 (t : Int)) ∧ Ch base w wr ∧ wr.heap[w.heap.size]? = some (.cells #[.pointer (some ⟨b, 0, none⟩)] 103 (0, 0)))) (fun z _ => n - (intOf z).toNat)
  case atStart => exact ⟨t + 1, by omega, by omega, by go_num, Lib.hid ⟨by rw [upto_self, HT.out]; exact HS.out.below ((Below.refl _ _).alloc (Nat.le_refl _) _), Ch.of_below hbw ((Below.refl _ _).alloc (Nat.le_refl _) _), heap_alloc_new w _⟩⟩
  case round =>
    obtain ⟨i, hi1, hi2, rfl, HR⟩ := hrel
    have hi0 : (0 : Int) ≤ (i : Int) := Int.natCast_nonneg _
    have hbx : wr.cell? ⟨w.heap.size, 0, none⟩ = some (.pointer (some ⟨b, 0, none⟩)) := by rw [cell_of_row _ _ _ _ _ _ HR.out.2.2]; rfl
    have HSH : Hid (Shape r n (upto S.ac s (t + 1) i)) := Lib.hid (by rw [HT.out]; rw [HT.out] at hi1; exact (ac_upto HP.out.sh HP.out.ltn i hi1 hi2).sh)
    have HMANY := Lib.hid (cmany128_any base b r n wr _ _ HSH.out HR.out.1)
    by_cases hlt : i < n
    · have hlt' : (i : Int) < (n : Int) := by omega
      obtain ⟨RS, Re1, Re2, Re3, Rf1, Rf2, Rz, Rt⟩ := ac_round HP.out (j := i) (by rw [← HT.out]; exact hi1) hlt
      rw [← HT.out] at RS Re1 Re2 Re3 Rf1 Rf2 Rz Rt
      have hpiv := HP.out.piv
      have hbt := HP.out.toBase.bda t i
      rw [← HT.out] at hpiv
      have HQDEF : Hid (qC s i = (ent s.a t i).tdiv (ent s.a t t)) := Lib.hid (by unfold qC; rw [← HT.out])
      have HRS := Lib.hid RS
      have HR3 := Lib.hid Re3
      have HF1 := Lib.hid Rf1
      have HF2 := Lib.hid Rf2
      have HRZ := Lib.hid Rz
      have HRT := Lib.hid Rt
      have HENT : Hid (∀ W, Below wr.heap.size wr W → Calls Try.prog 127 #[.agg #[.pointer (some ⟨b, 0, none⟩)], .int .i64 (i : Int)] W fun e w' => e = .returned (.int .i64 (ent s.a t i)) ∧ Below W.heap.size W w') := Lib.hid fun W hb => by
        have h := centry127_any base b r n i W (upto S.ac s (t + 1) i) RS hlt (by rw [Rt]; exact ht) (by rw [Rt]; exact HR.out.1.below hb)
        rw [Rt, Re1] at h
        exact h
      have hq1 := (tdiv_small (y := ent s.a t t) hbt).1
      have hq2 := (tdiv_small (y := ent s.a t t) hbt).2
      obtain ⟨g, d, bt, ct, hseen, hct1, hct2, hd1, hd2⟩ := HR.out.1.seen rfl RS ht htn hbx
      rw [Re2] at hseen
      have HSEEN := Lib.hid hseen
      clear RS Re1 Re2 Re3 Rf1 Rf2 Rz Rt hseen hbx
      generalize hx : ent s.a t i = x at *
      generalize hy : ent s.a t t = y at *
      clear hx hy
      have hw1 : IntKind.i64.wrap (x.tdiv y) = x.tdiv y := IntWalk.i64_in _ (by omega)
      have hy0 : (y == 0) = false := by simpa using hpiv
      obtain ⟨s1, s2, s3, s4, s5⟩ := HSEEN.out
      go_wp2_with (go_at_call 128; (with_reducible refine HMANY.out.mono ?_); rintro e w1 ⟨rfl, hb1⟩; have HB1 := Lib.hid hb1; clear hb1)
      clear s1 s2 s3 s4 s5
      obtain ⟨s1, s2, s3, s4, s5⟩ := seen_below HSEEN.out HB1.out
      have HS1 := Lib.hid (seen_below HSEEN.out (below_drew HB1.out))
      go_region_held3 (Seen w.heap.size b t r n g d bt ct y) (first | (with_reducible exact HS2.out) | (with_reducible exact HS1.out) | go_keep)
        ((go_at_call 127; (refine (HENT.out _ (below_drew HB1.out)).mono ?_); rintro e w2 ⟨rfl, hb2⟩; have HB2 := Lib.hid ((below_drew HB1.out).trans (hb2.mono (below_drew HB1.out).size)); have HS2 := Lib.hid (seen_below HSEEN.out HB2.out); clear hb2))
      clear s1 s2 s3 s4 s5
      obtain ⟨s1, s2, s3, s4, s5⟩ := HS2.out
      have HBX : Hid (w2.heap[w.heap.size]? = some (.cells #[.pointer (some ⟨b, 0, none⟩)] 103 (0, 0))) := Lib.hid ((HB2.out.block _ (Array.getElem?_eq_some_iff.1 HR.out.2.2).1).trans HR.out.2.2)
      have HCH2 := Lib.hid (HR.out.2.1.trans (Ch.of_below (Nat.le_trans hbw HR.out.2.1.size) HB2.out))
      generalize x.tdiv y = q at *
      by_cases hq0 : q = 0
      · have HNEW : Hid (Wk 66 b base w2 (upto S.ac s (t + 1) (i + 1)) (.int .i64 (t : Int))) := Lib.hid (by rw [HRZ.out (by rw [HQDEF.out, hq0])]; exact HR.out.1.below HB2.out)
        have hd1' : (q != 0) = false := by simpa using hq0
        clear hq0
        go_wp2_with fail
        go_roundw
        case rel => exact ⟨i + 1, by omega, by omega, by go_num, Lib.hid ⟨HNEW.out, HCH2.out, HBX.out⟩⟩
        case measure => simp [intOf]; omega
      · have hd1' : (q != 0) = true := by simpa using hq0
        have HADD : Hid (∀ W, Below wr.heap.size wr W → Calls Try.prog 126 #[.agg #[.pointer (some ⟨b, 0, none⟩)], .int .i64 (i : Int), .int .i64 (t : Int), .int .i64 (-q)] W fun e w' => e = .returned (.tuple #[]) ∧ Wk 66 b base w' (upto S.ac s (t + 1) (i + 1)) (.int .i64 (t : Int)) ∧ Ch base W w') := Lib.hid fun W hb => by
          have h := cadd126_any base b i t r n (-q) W (upto S.ac s (t + 1) i) (.int .i64 (t : Int)) HRS.out hlt htn (by omega) (by omega) (HR.out.1.below hb) (Nat.le_trans hbw (Nat.le_trans HR.out.2.1.size hb.size)) (by rw [← HQDEF.out]; exact HF1.out) (by rw [← HQDEF.out]; exact HF2.out)
          rw [HQDEF.out] at HR3
          rw [← HR3.out] at h
          exact h
        have hwn : IntKind.i64.wrap (-q) = -q := IntWalk.i64_in _ (by omega)
        have HS5 := Lib.hid (seen_below HSEEN.out (below_drew HB2.out))
        have HS6 : Hid (w2.drew.cell? ⟨w.heap.size, 0, none⟩ = some (.pointer (some ⟨b, 0, none⟩)) ∧ w2.drew.cell? ⟨b, 3, none⟩ = some (.int .i64 (t : Int))) := Lib.hid ⟨HS5.out.1, HS5.out.2.2.1⟩
        clear hq0 s2 s4 s5
        go_wp2_with fail
        go_region_held3 (fun W => W.cell? ⟨w.heap.size, 0, none⟩ = some (.pointer (some ⟨b, 0, none⟩)) ∧ W.cell? ⟨b, 3, none⟩ = some (.int .i64 (t : Int))) (first | (with_reducible exact HS7.out) | (with_reducible exact HS6.out) | go_keep)
          ((go_at_call 126; (refine (HADD.out _ (below_drew HB2.out)).mono ?_); rintro e w3 ⟨rfl, hw3, hch⟩; have HW3 := Lib.hid hw3; have HCH3 := Lib.hid (HCH2.out.trans ((Ch.refl base w2).drew.trans hch)); have HBX3 : Hid (w3.heap[w.heap.size]? = some (.cells #[.pointer (some ⟨b, 0, none⟩)] 103 (0, 0))) := Lib.hid ((hch.keep _ _ _ HBX.out (by decide) (by decide) (by decide) (by decide)).trans HBX.out); have HS7 : Hid (w3.cell? ⟨w.heap.size, 0, none⟩ = some (.pointer (some ⟨b, 0, none⟩)) ∧ w3.cell? ⟨b, 3, none⟩ = some (.int .i64 (t : Int))) := Lib.hid ⟨by rw [cell_of_row _ _ _ _ _ _ HBX3.out]; rfl, by obtain ⟨vs, bl, cs, hM⟩ := hw3; exact hM.cells.2.2.2.1⟩; clear hw3 hch))
        go_wp2_with fail
        go_roundw
        case rel => exact ⟨i + 1, by omega, by omega, by go_num, Lib.hid ⟨HW3.out, HCH3.out, HBX3.out⟩⟩
        case measure => simp [intOf]; omega
    · obtain rfl : i = n := by omega
      have hdn : upto S.ac s (t + 1) i = s.across i := by unfold S.across; rw [HT.out]
      have HCK : Hid (∀ W, Below wr.heap.size wr W → Calls Try.prog 99 #[.pointer (some ⟨b, 0, none⟩)] W (CheckPost W.heap.size (s.across i).fine W)) := Lib.hid fun W hb => check99_any base b r i W (s.across i) (.int .i64 (t : Int)) (by rw [← hdn]; exact HSH.out) hr hn (by rw [← hdn]; exact HR.out.1.below hb) (mid_across HP.out)
      have HWD : Hid (∀ W, Below wr.heap.size wr W → Wk 66 b base W (s.across i) (.int .i64 (t : Int))) := Lib.hid fun W hb => by rw [← hdn]; exact HR.out.1.below hb
      clear hdn
      cases hf : (s.across i).fine with
      | true =>
        have HCK2 : Hid (∀ W, Below wr.heap.size wr W → Calls Try.prog 99 #[.pointer (some ⟨b, 0, none⟩)] W fun e w' => e = .returned (.tuple #[]) ∧ Below W.heap.size W w') := Lib.hid fun W hb => (HCK.out W hb).mono fun e w' h1 => ⟨by
          obtain ⟨h, -⟩ := h1
          rcases h with ⟨-, h⟩ | ⟨h, -⟩
          · exact h
          · exact absurd (hf.symm.trans h) (by decide), h1.2⟩
        clear HCK
        have HF := Lib.hid hf
        clear hf
        go_wp2_with (first
          | (go_at_call 128; (with_reducible refine HMANY.out.mono ?_); rintro e w1 ⟨rfl, hb1⟩; have HB1 := Lib.hid hb1; clear hb1)
          | (go_at_call 99; (refine (HCK2.out _ HB1.out).mono ?_); rintro e w2 ⟨rfl, hb2⟩; have HB2 := Lib.hid (HB1.out.trans (hb2.mono HB1.out.size)); clear hb2))
        go_end0
        exact ⟨.inl ⟨HF.out, rfl, HWD.out _ HB2.out⟩, HR.out.2.1.trans (Ch.of_below (Nat.le_trans hbw HR.out.2.1.size) HB2.out)⟩
      | false =>
        have HCK2 : Hid (∀ W, Below wr.heap.size wr W → Calls Try.prog 99 #[.pointer (some ⟨b, 0, none⟩)] W fun e w' => e = .panicked failP ∧ Below W.heap.size W w') := Lib.hid fun W hb => (HCK.out W hb).mono fun e w' h1 => ⟨by
          obtain ⟨h, -⟩ := h1
          rcases h with ⟨h, -⟩ | ⟨-, h⟩
          · exact absurd (hf.symm.trans h) (by decide)
          · exact h, h1.2⟩
        clear HCK
        have HF := Lib.hid hf
        clear hf
        go_wp2_with (first
          | (go_at_call 128; (with_reducible refine HMANY.out.mono ?_); rintro e w1 ⟨rfl, hb1⟩; have HB1 := Lib.hid hb1; clear hb1)
          | (go_at_call 99; (refine (HCK2.out _ HB1.out).mono ?_); rintro e w2 ⟨rfl, hb2⟩; have HB2 := Lib.hid (HB1.out.trans (hb2.mono HB1.out.size)); clear hb2))
        exact ⟨rfl, .inr ⟨HF.out, rfl⟩, HR.out.2.1.trans (Ch.of_below (Nat.le_trans hbw HR.out.2.1.size) HB2.out)⟩
end Go.Proofs
