/- own: a copy of a list of lists. -/
import Derived.Test.YtnhoiompdjabbaaOwn0
namespace Go.Proofs
open Go.RowKit Go.Proofs.Pc

/-- block bo: n values, the first k are copies -/
def Copies (bo n k : Nat) (L : List (List Int)) (w : World) : Prop :=
  ∃ C : Array Value, w.heap[bo]? = some (.cells C 22 (0, 0)) ∧ C.size = n ∧ ∀ j, j < k → ∃ u, C[j]? = some u ∧ IntsT w u (L.getD j [])

theorem copies_next {bo n k : Nat} {L : List (List Int)} {wr w2 : World} {C : Array Value} {u : Value} (hC : w2.heap[bo]? = some (.cells C 22 (0, 0))) (hs : C.size = n) (hcs : ∀ j, j < k → ∃ u, C[j]? = some u ∧ IntsT wr u (L.getD j []))
    (hu : IntsT w2 u (L.getD k [])) (hb : Below wr.heap.size wr w2) (hk : k < n) : Copies bo n (k + 1) L (w2.setCell ⟨bo, k, none⟩ u) := by
  have hag : Agree [3] w2 (w2.setCell ⟨bo, k, none⟩ u) := Agree.setCell hC (by simp)
  refine ⟨C.setIfInBounds k u, by simp [World.setCell, Array.getElem?_modify, hC], by simpa using hs, fun j hj => ?_⟩
  rcases Nat.lt_or_ge j k with h | h
  · obtain ⟨u', h1, h2⟩ := hcs j h
    exact ⟨u', by rw [Array.getElem?_setIfInBounds_ne (by omega)]; exact h1, (h2.keep (Agree.below hb)).keep hag⟩
  · obtain rfl : j = k := by omega
    exact ⟨u, by simp [hs, hk], hu.keep hag⟩
/-- u reads as the table L by cells of blocks of numbers and of slices of numbers alone. -/
def TabT (w : World) (u : Value) (L : List (List Int)) : Prop := ∀ w' : World, Agree [3, 22] w w' → Tab w' u L
theorem TabT.at_ {w : World} {u : Value} {L : List (List Int)} (h : TabT w u L) : Tab w u L := h w Agree.refl
theorem TabT.keep {w w1 : World} {u : Value} {L : List (List Int)} (h : TabT w u L) (hk : Agree [3, 22] w w1) : TabT w1 u L := fun w' hw => h w' (hk.trans hw)
theorem tab_of_copies {bo n : Nat} {L : List (List Int)} {w : World} (hn : L.length = n) (hl : n ≤ 1000) (h : Copies bo n n L w) : TabT w (.slice (some ⟨bo, 0, none⟩) n n) L := by
  obtain ⟨C, hC, hs, hcs⟩ := h
  intro w' hw
  have hC' := hw bo _ _ _ (by simp) hC
  refine ⟨C.toList, ⟨_, n, n, rfl, by simp [hs], Nat.le_refl _, by unfold maxLen; omega, fun _ => ⟨bo, 0, rfl, fun j v hv => ?_⟩⟩, by simp [hs, hn], fun i hi => ?_⟩
  · rw [cell_of_row _ _ _ _ _ _ hC']
    simpa using hv
  · obtain ⟨u, h1, h2⟩ := hcs i (by omega)
    exact ⟨u, by simpa using h1, h2 w' (hw.mono (by simp))⟩

set_option maxRecDepth 100000 in
set_option maxHeartbeats 400000 in
theorem own_new (w : World) (v : Value) (L : List (List Int)) (h : Tab w v L) (hl : L.length ≤ 1000) (hls : ∀ k, k < L.length → (L.getD k []).length ≤ 1000) :
    Calls Try.prog 85 #[v] w fun e w' => ∃ u, e = .returned u ∧ TabT w' u L ∧ Below w.heap.size w w' := by
  obtain ⟨A, cap, rfl, hcap, hmax, hr⟩ := h.open_
  have hmk := make23 w L.length hl
  have HR := Lib.hid hr
  have HLS := Lib.hid hls
  clear hr hls h
  go_enter Try.func85, Try.ntmps85
  go_wp2_with fail
  generalize hn : L.length = n at *
  go_loopw [4, 5, 11] (fun _ _ i wr => ∃ k : Nat, k ≤ n ∧ i = .int .i64 k ∧ Copies w.heap.size n k L wr ∧ Below w.heap.size w wr) (fun _ _ i _ => n - (intOf i).toNat)
  case atStart => exact ⟨0, Nat.zero_le _, by go_num, ⟨_, heap_alloc_new w _, by simp, fun j hj => absurd hj (by omega)⟩, (Below.refl _ _).alloc (Nat.le_refl _) _⟩
  case round =>
    obtain ⟨k, hk, rfl, ⟨C, hC, hCs, hcs⟩, hb⟩ := hrel
    by_cases hlt : k < n
    · obtain ⟨b, off, rfl, hx⟩ := HR.out (by omega)
      obtain ⟨u0, hu0, hr0⟩ := hx k hlt
      have hc1 : wr.cell? ⟨b, off + k, none⟩ = some u0 := (hb.cell (p := ⟨b, off + k, none⟩) (World.block_lt_of_cell? w _ hu0)).trans hu0
      have HI := Lib.hid (hr0.below hb)
      have HX := Lib.hid (HLS.out k hlt)
      have HC := Lib.hid hC
      have HCS := Lib.hid hcs
      have HB := Lib.hid hb
      have hbl : w.heap.size < wr.heap.size := (Array.getElem?_eq_some_iff.1 hC).1
      have hk0 : (0 : Int) ≤ (k : Int) := Int.natCast_nonneg _
      have hk1 : (k : Int) < (n : Int) := by omega
      clear hx hr0 hC hcs hb hu0 hmk
      go_wp2_with (first
        | (go_at_call 84
           refine (clone_T wr u0 (L.getD k []) HI.out HX.out).mono ?_
           rintro e w2 ⟨u, rfl, hu, hb2⟩
           obtain ⟨A2, n2, cap2, rfl⟩ : ∃ (A : Option Addr) (n c : Nat), u = .slice A n c := by
             obtain ⟨A2, cap2, h, -⟩ := hu.at_.open_
             exact ⟨_, _, _, h⟩
           have hC2 : w2.heap[w.heap.size]? = some (.cells C 22 (0, 0)) := (hb2.block _ hbl).trans HC.out
           obtain ⟨cv, hcv⟩ : ∃ cv, C[k]? = some cv := ⟨_, Array.getElem?_eq_getElem (by omega)⟩
           have hc2 : w2.cell? ⟨w.heap.size, k, none⟩ = some cv := by simp [World.cell?, hC2, hcv]
           have hf2 : w2.frozen? ⟨w.heap.size, k, none⟩ = false := by simp [World.frozen?, hC2]
           have HU := Lib.hid hu
           have HB2 := Lib.hid hb2
           have HC2 := Lib.hid hC2
           clear hu hb2 hC2))
      all_goals first
        | (go_round
           case rel => exact ⟨k + 1, by omega, by go_num, copies_next HC2.out hCs HCS.out HU.out HB2.out hlt, (HB.out.trans (HB2.out.mono HB.out.size)).setCell (p := ⟨w.heap.size, k, none⟩) (Nat.le_refl _) _⟩
           case measure => simp [intOf]; omega)
    · obtain rfl : k = n := by omega
      have hfin := tab_of_copies (w := wr) (bo := w.heap.size) hn hl ⟨C, hC, hCs, hcs⟩
      have HF := Lib.hid hfin
      have HB := Lib.hid hb
      clear hfin hcs hC hb HR HLS hmk
      go_wp2_with fail
      all_goals first
        | (exfalso; omega)
        | exact bodyPost_ret (results_tmp (t := 2) rfl _ _ _) rfl ⟨_, rfl, HF.out, HB.out⟩
theorem own_any (w : World) (v : Value) (L : List (List Int)) (h : Tab w v L) (hl : L.length ≤ 1000) (hls : ∀ k, k < L.length → (L.getD k []).length ≤ 1000) :
    Calls Try.prog 85 #[v] w fun e w' => ∃ u, e = .returned u ∧ Tab w' u L ∧ Below w.heap.size w w' := (own_new w v L h hl hls).mono fun _ _ ⟨u, he, hu, hb⟩ => ⟨u, he, hu.at_, hb⟩
end Go.Proofs
