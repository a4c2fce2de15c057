/- slices.Repeat of one letter; Relations: words for the relators in memory; the contract of the literal in collect.Relations; The literal in collect.Relations; The reference's Check. -/
import Derived.Test.YtffkmchmakfcpaaOrCS22
import Derived.Shelf.Bits.Mul64
import Derived.Laws.CopyOwn
import Derived.Test.YtffkmchmakfcpaaOrCS18
import Derived.Test.YtffkmchmakfcpaaOrCS20
import Derived.Test.YtffkmchmakfcpaaOrCS13
import Derived.Test.YtffkmchmakfcpaaOrCS17
import Derived.BigRegion
import Derived.ChangeAlike
import Derived.StillTailTactics
namespace Go.Proofs
open Go.Shelf
def Try.lays212_ren : Go.Shelf.Ren := ⟨fun | 212 => 96 | 263 => 107 | 264 => 108 | n => n, fun | 46 => 140 | 51 => 152 | 146 => 153 | 53 => 155 | 148 => 156 | n => n, fun | n => n⟩
theorem Try.lays212 : Go.Proofs.Lays.n212 Try.prog Try.lays212_ren := {
  mixed := by kernel_rfl
  f212 := Try.func96.trans (congrArg some (by kernel_rfl))
  f263 := Try.func107.trans (congrArg some (by kernel_rfl))
  f264 := Try.func108.trans (congrArg some (by kernel_rfl))
  t46 := Try.underlying140
  a46 := Try.isAgg140
  z46 := Try.sizeOf140
  v46 := Try.zeroValue140
  t51 := Try.underlying152
  a51 := Try.isAgg152
  z51 := Try.sizeOf152
  v51 := Try.zeroValue152
  t53 := Try.underlying155
  a53 := Try.isAgg155
  z53 := Try.sizeOf155
  v53 := Try.zeroValue155
  t146 := Try.underlying153
  a146 := Try.isAgg153
  z146 := Try.sizeOf153
  v146 := Try.zeroValue153
  t148 := Try.underlying156
  a148 := Try.isAgg156
  z148 := Try.sizeOf156
  v148 := Try.zeroValue156 }
end Go.Proofs
namespace Go.Proofs
open Go.RowKit Go.Proofs.Pc Go.Shelf
/-- k letters x, then noughts, c in all -/
def rp (x : Int) (k c : Nat) : List Value := List.replicate k (.int .i64 x) ++ List.replicate (c - k) (.int .i64 0)
theorem length_rp (x : Int) {k c : Nat} (h : k ≤ c) : (rp x k c).length = c := by simp [rp]; omega
theorem rp_get (x : Int) {k c j : Nat} (_h : k ≤ c) (hj : j < c) : (rp x k c)[j]? = some (.int .i64 (if j < k then x else 0)) := by
  unfold rp
  rw [List.getElem?_append]
  simp only [List.length_replicate, List.getElem?_replicate]
  by_cases h1 : j < k
  · simp [h1]
  · simp [h1]; omega
theorem rp_step (x : Int) {k m c : Nat} (h : k + m ≤ c) : (rp x k c).take k ++ List.replicate m (.int .i64 x) ++ (rp x k c).drop (k + m) = rp x (k + m) c := by
  have h1 : (rp x k c).take k = List.replicate k (.int .i64 x) := by
    unfold rp
    rw [List.take_append_of_le_length (by simp)]
    simp
  have h2 : (rp x k c).drop (k + m) = List.replicate (c - (k + m)) (.int .i64 0) := by
    unfold rp
    rw [List.drop_append, List.drop_replicate, List.length_replicate, List.drop_replicate]
    rw [show k - (k + m) = 0 by omega, show c - k - (k + m - k) = c - (k + m) by omega]
    simp
  rw [h1, h2, List.replicate_append_replicate]
  rfl
theorem make50 (w : World) (n : Nat) (hn : n ≤ 100000) : (Instr.makeSlice 50 (.int .i64 (n : Int)) (.int .i64 (n : Int))).run Try.prog w =
    .ok (.slice (some ⟨w.heap.size, 0, none⟩) n n) (w.alloc (.cells (Array.replicate n (.int .i64 0)) 3)) := by
  obtain ⟨i, hi, hz, hs, hb⟩ := info3p
  have := run_makeSlice (P := Try.prog) w 50 3 i (.int .i64 0) Try.underlying50 hi hz .i64 .i64 n n (by omega) (Int.le_refl _) (by rw [hs]; simp; omega) (by rw [hb]; omega) (by omega)
  rw [this, hs, Int.toNat_natCast, Nat.mul_one, made3]
/-- copy(row[k:], row[:k]), one doubling -/
theorem copy_double {w : World} {g c k m : Nat} {x : Int} (hg : w.heap[g]? = some (.cells (rp x k c).toArray 3 (0, 0))) (hk : k ≤ c) (hm : m = min k (c - k)) (ty : TypeId) :
    (Builtin.copy_ #[50, 50] ty #[.slice (some ⟨g, k, none⟩) (c - k) (c - k), .slice (some ⟨g, 0, none⟩) k c]).run Try.prog w = .ok (.int .i64 m) (w.setRow g (rp x (k + m) c).toArray) := by
  have h3 : (Try.prog.info? 3).map (·.size) = some 1 := by kernel_rfl
  have := run_copy_row (P := Try.prog) w 50 50 ty 3 g k (c - k) (c - k) ⟨g, 0, none⟩ k c (rp x k c).toArray 3 (List.replicate m (.int .i64 x)) Try.underlying50 h3 hg (by rw [List.length_replicate, hm]; first | rfl | done)
    (fun j v hv => by
      have hj : j < m := by have := (List.getElem?_eq_some_iff.1 hv).1; simpa using this
      rw [Addr.add_lit, Nat.zero_add, cell_of_row _ _ _ _ _ _ hg, List.getElem?_toArray, rp_get x hk (by omega), if_pos (by omega), ← hv]
      simp [hj]) (by rw [List.size_toArray, length_rp x hk, List.length_replicate]; omega) (fun v hv => by rw [(List.mem_replicate.1 hv).2]; rfl)
  rw [this]
  simp only [List.length_replicate]
  rw [rp_step x (by omega)]
  rfl
theorem copy_first {w : World} {g c b o cc : Nat} {x : Int} (hg : w.heap[g]? = some (.cells (rp x 0 c).toArray 3 (0, 0))) (hc : 0 < c) (hb : w.cell? ⟨b, o, none⟩ = some (.int .i64 x)) (ty : TypeId) :
    (Builtin.copy_ #[50, 50] ty #[.slice (some ⟨g, 0, none⟩) c c, .slice (some ⟨b, o, none⟩) 1 cc]).run Try.prog w = .ok (.int .i64 1) (w.setRow g (rp x 1 c).toArray) := by
  have h3 : (Try.prog.info? 3).map (·.size) = some 1 := by kernel_rfl
  have := run_copy_row (P := Try.prog) w 50 50 ty 3 g 0 c c ⟨b, o, none⟩ 1 cc (rp x 0 c).toArray 3 [.int .i64 x] Try.underlying50 h3 hg (by show 1 = min 1 c; omega)
    (fun j v hv => by
      match j, hv with
      | 0, hv => rw [Addr.add_lit, Nat.add_zero, hb]; simpa using hv) (by rw [List.size_toArray, length_rp x (Nat.zero_le _)]; simp; omega) (fun v hv => by simp at hv; rw [hv]; rfl)
  rw [this]
  have e := rp_step x (k := 0) (m := 1) (c := c) (by omega)
  rw [Nat.zero_add] at e
  rw [← e]
  simp [goInt]
theorem copy_none {w : World} {g b o cc : Nat} (ty : TypeId) : (Builtin.copy_ #[50, 50] ty #[.slice (some ⟨g, 0, none⟩) 0 0, .slice (some ⟨b, o, none⟩) 1 cc]).run Try.prog w = .ok (.int .i64 0) w := by
  have h3 : (Try.prog.info? 3).map (·.size) = some 1 := by kernel_rfl
  exact run_copy_none (P := Try.prog) w 50 50 ty 3 _ _ _ _ _ _ Try.underlying50 h3 (by show min 1 0 = 0; rfl)
theorem mul86 (w : World) (c : Nat) (hc : c ≤ 1000) : Calls Try.prog 96 #[.int .u64 1, .int .u64 c] w fun e w' => e = .returned (.tuple #[.int .u64 0, .int .u64 c]) ∧ w' = w :=
  (Any.bits_Mul Try.lays212 1 c (by omega) (by omega) w).mono fun e w' ⟨he, hw⟩ => by
    refine ⟨?_, hw⟩
    rw [he, show 1 * c / 18446744073709551616 = 0 by omega, show 1 * c % 18446744073709551616 = c by omega]
    rfl
/-- v owns c letters x -/
def Rep (w : World) (x : Int) (c : Nat) (e : Ending) (w' : World) : Prop := ∃ v, e = .returned v ∧ (∃ g, v = .slice (some ⟨g, 0, none⟩) c c ∧ w.heap.size ≤ g ∧ w'.heap[g]? = some (.cells (rp x c c).toArray 3 (0, 0))) ∧ Below w.heap.size w w'
theorem rp_zero (x : Int) (c : Nat) : Array.replicate c (Value.int .i64 0) = (rp x 0 c).toArray := by simp [rp]
theorem drew_setRow (w : World) (g : Nat) (cs : Array Value) : w.drew.setRow g cs = (w.setRow g cs).drew := rfl
set_option maxRecDepth 100000 in
set_option maxHeartbeats 1000000 in
theorem repeat_any (w : World) (b o cc : Nat) (x : Int) (c : Nat) (hc : c ≤ 1000) (hx : w.cell? ⟨b, o, none⟩ = some (.int .i64 x)) :
    Calls Try.prog 68 #[.slice (some ⟨b, o, none⟩) 1 cc, .int .i64 c] w (Rep w x c) := by
  have hmk := make50 w c (by omega)
  rw [rp_zero x c] at hmk
  have hg0 := heap_alloc_new w (.cells (rp x 0 c).toArray 3)
  have hb0 : Below w.heap.size w (w.alloc (.cells (rp x 0 c).toArray 3)) := (Below.refl _ _).alloc (Nat.le_refl _) _
  have hx0 := (KC.of_below hb0).cell hx
  have hc0 : (0 : Int) ≤ (c : Int) := Int.natCast_nonneg _
  have hc1 : (c : Int) ≤ 1000 := by omega
  have HM := Lib.hid (mul86 w c hc)
  have HG := Lib.hid hg0
  have HB := Lib.hid hb0
  clear hg0 hb0 hx
  generalize w.alloc (.cells (rp x 0 c).toArray 3) = W at *
  have d1 : decide ((c : Int) < 0) = false := by simp
  go_enter Try.func68, Try.ntmps68
  go_wp2_with fail
  rcases Nat.eq_zero_or_pos c with h0 | h0
  · subst h0
    have hmk0 : (Instr.makeSlice 50 (.int .i64 0) (.int .i64 0)).run Try.prog w = .ok (.slice (some ⟨w.heap.size, 0, none⟩) 0 0) W := hmk
    have hcn := copy_none (w := W) (g := w.heap.size) (b := b) (o := o) (cc := cc) 3
    go_wp2_with (go_at_call 96; (refine HM.out.mono ?_); rintro e w' ⟨rfl, rfl⟩)
    go_loop [8] (fun s => s = .int .i64 0) (fun _ => 0)
    case atStart => rfl
    case round =>
      subst hrel
      go_wp2_with fail
      go_ret
      exact ⟨_, rfl, ⟨_, rfl, Nat.le_refl _, HG.out⟩, HB.out⟩
  · have hcf := copy_first (cc := cc) HG.out h0 hx0 3
    have hg1 := setRow_heap W w.heap.size _ (rp x 1 c).toArray 3 (0, 0) HG.out
    have hb1 : Below w.heap.size w (W.setRow w.heap.size (rp x 1 c).toArray) := HB.out.trans ⟨rfl, rfl, rfl, by rw [World.setRow]; simp, fun k hk => setRow_other W _ k _ (by omega)⟩
    have hcc1 : (1 : Int) ≤ (c : Int) := by omega
    go_wp2_with (go_at_call 96; (refine HM.out.mono ?_); rintro e w' ⟨rfl, rfl⟩)
    generalize W.setRow w'.heap.size (rp x 1 c).toArray = W1 at *
    go_loopw [8] (fun s wr => ∃ k : Nat, 1 ≤ k ∧ k ≤ c ∧ s = .int .i64 k ∧ wr.heap[w'.heap.size]? = some (.cells (rp x k c).toArray 3 (0, 0)) ∧ Below w'.heap.size w' wr) (fun s _ => c - (intOf s).toNat)
    case atStart => exact ⟨1, Nat.le_refl _, h0, rfl, hg1, hb1⟩
    case round =>
      obtain ⟨k, hk1, hk, rfl, hg, hb⟩ := hrel
      by_cases hlt : k < c
      · have hk0 : (0 : Int) ≤ (k : Int) := Int.natCast_nonneg _
        have hkc : (k : Int) ≤ (c : Int) := by omega
        have hkl : (k : Int) < (c : Int) := by omega
        obtain ⟨m, hm⟩ : ∃ m, m = min k (c - k) := ⟨_, rfl⟩
        have hm1 : 1 ≤ m := by omega
        have hm2 : k + m ≤ c := by omega
        have hcd := copy_double (w := wr.drew) (x := x) (m := m) hg hk hm 3
        have hgn := setRow_heap wr w'.heap.size _ (rp x (k + m) c).toArray 3 (0, 0) hg
        have hbn : Below w'.heap.size w' (wr.setRow w'.heap.size (rp x (k + m) c).toArray) := hb.trans ⟨rfl, rfl, rfl, by rw [World.setRow]; simp, fun k hk => setRow_other wr _ k _ (by omega)⟩
        rw [drew_setRow] at hcd
        have HM' := Lib.hid hm
        have HGN := Lib.hid hgn
        have HBN := Lib.hid hbn
        clear hg hb hm hgn hbn hcf hmk
        go_wp2_with fail
        go_region
        go_wp2_with fail
        go_roundw
        case rel => exact ⟨k + m, by omega, by omega, by go_num, HGN.out, HBN.out.drew⟩
        case measure => simp [intOf]; omega
      · obtain rfl : k = c := by omega
        go_wp2_with fail
        go_ret
        exact ⟨_, rfl, ⟨_, rfl, Nat.le_refl _, hg⟩, hb⟩
end Go.Proofs
namespace Go.Proofs.Pc
theorem backTo_step (y : V) {n i : Nat} (hi : i < n) : backTo y n (n - i) = backTo y n (n - (i + 1)) ++ List.replicate (y.getD i 0).toNat (-(i : Int) - 1) := by
  have e : n - i = (n - (i + 1)) + 1 := by omega
  rw [e]
  show backTo y n (n - (i + 1)) ++ List.replicate (y.getD (n - 1 - (n - (i + 1))) 0).toNat (-((n - 1 - (n - (i + 1)) : Nat) : Int) - 1) = _
  have e2 : n - 1 - (n - (i + 1)) = i := by omega
  rw [e2]
theorem backTo_fits (y : V) (n : Nat) (hn : n ≤ 12) : ∀ t, t ≤ n → ∀ x ∈ backTo y n t, -12 ≤ x ∧ x ≤ 12
  | 0, _ => fun x hx => by cases hx
  | t + 1, ht => fun x hx => by
    have hx' : x ∈ backTo y n t ++ List.replicate (y.getD (n - 1 - t) 0).toNat (-((n - 1 - t : Nat) : Int) - 1) := hx
    rcases List.mem_append.1 hx' with h | h
    · exact backTo_fits y n hn t (by omega) x h
    · have := (List.mem_replicate.1 h).2
      omega
end Go.Proofs.Pc
namespace Go.Proofs
open Go.RowKit Go.Proofs.Pc
theorem owns_block {w : World} {base e n : Nat} {v : Value} {xs : List Value} (h : w.ownsRow base e 1 v n xs) : ∀ r, v.ownBlock = some r → base ≤ r ∧ ∃ C, w.heap[r]? = some (.cells C e (0, 0)) := fun r hr => by
  rcases h.2 with ⟨rfl, -⟩ | ⟨g, cap, cur, rfl, hb, hg, -⟩
  · cases hr
  · have : g = r := Option.some.inj hr
    subst this
    exact ⟨hb, cur, hg⟩
theorem owns_keep {w w' : World} {base e size n : Nat} {v : Value} {xs : List Value} (h : w.ownsRow base e size v n xs) (hb : ∀ r, v.ownBlock = some r → w'.heap[r]? = w.heap[r]?) : w'.ownsRow base e size v n xs := by
  obtain ⟨h1, h2⟩ := h
  refine ⟨h1, ?_⟩
  rcases h2 with h2 | ⟨g, cap, cur, a, b, hg, r⟩
  · exact .inl h2
  · exact .inr ⟨g, cap, cur, a, b, (hb g (by rw [a]; rfl)).trans hg, r⟩
theorem owns_form {w : World} {base e n : Nat} {v : Value} {xs : List Value} (h : w.ownsRow base e 1 v n xs) : ∃ A c, v = .slice A n c := by
  rcases h.2 with ⟨rfl, rfl⟩ | ⟨g, cap, cur, rfl, -⟩
  · exact ⟨none, 0, rfl⟩
  · exact ⟨_, _, rfl⟩
/-- u reads as x by blocks of numbers in [lo, hi) -/
def IntsX (lo hi : Nat) (w : World) (u : Value) (x : List Int) : Prop :=
  ∀ w' : World, (∀ (k : Nat) (C : Array Value) (fr : Nat × Nat), lo ≤ k → k < hi → w.heap[k]? = some (Obj.cells C 3 fr) → w'.heap[k]? = some (Obj.cells C 3 fr)) → IntsAt w' u x
theorem IntsX.at_ {lo hi : Nat} {w : World} {u : Value} {x : List Int} (h : IntsX lo hi w u x) : IntsAt w u x := h w fun _ _ _ _ _ h => h
theorem IntsX.keep {lo hi hi' : Nat} {w w' : World} {u : Value} {x : List Int} (h : IntsX lo hi w u x) (hh : hi ≤ hi') (hk : ∀ (k : Nat) (C : Array Value) (fr : Nat × Nat), lo ≤ k → k < hi → w.heap[k]? = some (Obj.cells C 3 fr) → w'.heap[k]? = some (Obj.cells C 3 fr)) : IntsX lo hi' w' u x :=
  fun w'' hw => h w'' fun k C fr h1 h2 h3 => hw k C fr h1 (by omega) (hk k C fr h1 h2 h3)
theorem IntsX.of_owns {lo : Nat} {w : World} {v : Value} {n : Nat} {x : List Int} (h : w.ownsRow lo 3 1 v n (ints x)) (hf : Fits x) : IntsX lo w.heap.size w v x := fun w' hw => by
  refine ⟨?_, hf⟩
  refine sl_of_owns (e := 3) (base := lo) (n := n) (owns_keep h fun r hr => ?_)
  obtain ⟨h1, C, h2⟩ := owns_block h r hr
  rw [h2]
  exact hw r C _ h1 (Array.getElem?_eq_some_iff.1 h2).1 h2
/-- box O holds n and a row of the words rs, all of it in blocks from lo on, the words below hi; below lo only L and O have turned since w0 -/
structure RelSt (lo hi : Nat) (w0 w : World) (L O : Nat) (n : Int) (rs : List (List Int)) : Prop where
  os : w.os = w0.os
  tape : w.tape = w0.tape
  output : w.output = w0.output
  lh : lo ≤ hi
  hs : hi ≤ w.heap.size
  old : ∀ k, k < lo → k ≠ L → k ≠ O → w.heap[k]? = w0.heap[k]?
  out : ∃ A c vals, w.heap[O]? = some (.cells #[.int .i64 n, .slice A rs.length c] 46 (0, 0)) ∧ w.ownsRow lo 50 1 (.slice A rs.length c) rs.length vals ∧ (∀ r, (Value.slice A rs.length c).ownBlock = some r → r < hi) ∧
    ∀ j, j < rs.length → ∃ u, vals[j]? = some u ∧ IntsX lo hi w u (rs.getD j [])
theorem RelSt.drewN {lo hi : Nat} {w0 w : World} {L O : Nat} {n : Int} {rs : List (List Int)} (h : RelSt lo hi w0 w L O n rs) (k : Nat) : RelSt lo hi w0 (w.drewN k) L O n rs :=
  ⟨h.os, h.tape, h.output, h.lh, h.hs, h.old, h.out⟩
theorem RelSt.below {lo hi : Nat} {w0 w w' : World} {L O : Nat} {n : Int} {rs : List (List Int)} (h : RelSt lo hi w0 w L O n rs) (hO : O < lo) (hb : Below hi w w') : RelSt lo hi w0 w' L O n rs := by
  have h1 := h.lh
  have h2 := h.hs
  obtain ⟨A, c, vals, ho, hw, hr, hv⟩ := h.out
  refine ⟨hb.os.trans h.os, hb.tape.trans h.tape, hb.output.trans h.output, h1, Nat.le_trans h2 hb.size, fun k hk hL hO => (hb.block k (by omega)).trans (h.old k hk hL hO), A, c, vals, (hb.block O (by omega)).trans ho, owns_keep hw fun r hr' => hb.block r (hr r hr'), hr, fun j hj => ?_⟩
  obtain ⟨u, hu, hx⟩ := hv j hj
  exact ⟨u, hu, hx.keep (Nat.le_refl _) fun k C fr _ hk hc => (hb.block k hk).trans hc⟩
/-- another low block, L, is written -/
theorem RelSt.setL {lo hi : Nat} {w0 w : World} {L O : Nat} {n : Int} {rs : List (List Int)} (h : RelSt lo hi w0 w L O n rs) (hL : L < lo) (hLO : L ≠ O) (j : Nat) (v : Value) : RelSt lo hi w0 (w.setCell ⟨L, j, none⟩ v) L O n rs := by
  have hk : ∀ k, k ≠ L → (w.setCell ⟨L, j, none⟩ v).heap[k]? = w.heap[k]? := fun k hk => Below.heap_setCell w ⟨L, j, none⟩ v k hk
  obtain ⟨A, c, vals, ho, hw, hr, hv⟩ := h.out
  refine ⟨h.os, h.tape, h.output, h.lh, by have := h.hs; simpa [World.setCell] using this, fun k hk' hL hO => (hk k hL).trans (h.old k hk' hL hO), A, c, vals, (hk O (Ne.symm hLO)).trans ho, owns_keep hw fun r hr' => hk r (by have := (owns_block hw r hr').1; omega), hr, fun j' hj => ?_⟩
  obtain ⟨u, hu, hx⟩ := hv j' hj
  exact ⟨u, hu, hx.keep (Nat.le_refl _) fun k C fr hk0 hk1 hc => (hk k (by omega)).trans hc⟩
/-- a word is appended, and the row stored into the box -/
theorem RelSt.next {lo hi : Nat} {w0 w w' : World} {L O : Nat} {n : Int} {rs : List (List Int)} {A A' : Option Addr} {c c' m : Nat} {vals : List Value} {u : Value} {x : List Int}
    (h : RelSt lo hi w0 w L O n rs) (hO : O < lo) (hrow : w.ownsRow lo 50 1 (.slice A rs.length c) rs.length vals)
    (hv : ∀ j, j < rs.length → ∃ u, vals[j]? = some u ∧ IntsX lo hi w u (rs.getD j []))
    (hou : ∃ v1, w.heap[O]? = some (.cells #[.int .i64 n, v1] 46 (0, 0)))
    (hu : w.ownsRow lo 3 1 u m (ints x)) (hf : Fits x) (hg : w.grownBy w' (Value.slice A rs.length c).ownBlock) (hown : w'.ownsRow lo 50 1 (.slice A' (rs.length + 1) c') (rs.length + 1) (vals ++ [u])) :
    RelSt lo w'.heap.size w0 (w'.setCell ⟨O, 1, none⟩ (.slice A' (rs.length + 1) c')) L O n (rs ++ [x]) := by
  have h1 := h.lh
  have h2 := h.hs
  have hlen : (rs ++ [x]).length = rs.length + 1 := by simp
  have hrowb := owns_block hrow
  have hk : ∀ k, k ≠ O → (w'.setCell ⟨O, 1, none⟩ (.slice A' (rs.length + 1) c')).heap[k]? = w'.heap[k]? := fun k hk => Below.heap_setCell w' ⟨O, 1, none⟩ _ k hk
  have hg3 : ∀ (k : Nat) (C : Array Value) (fr : Nat × Nat), w.heap[k]? = some (Obj.cells C 3 fr) → w'.heap[k]? = some (Obj.cells C 3 fr) := fun k C fr hc => by
    refine (hg.block k (Array.getElem?_eq_some_iff.1 hc).1 fun e => ?_).trans hc
    obtain ⟨-, C', hC'⟩ := hrowb k e.symm
    rw [hc] at hC'; cases hC'
  have hlow : ∀ k, k < lo → w'.heap[k]? = w.heap[k]? := fun k hk => hg.block k (by omega) fun e => by have := (hrowb k e.symm).1; omega
  obtain ⟨v1, hO1⟩ := hou
  refine ⟨hg.os.trans h.os, hg.tape.trans h.tape, hg.output.trans h.output, Nat.le_trans (Nat.le_trans h1 h2) hg.size, by simp [World.setCell], fun k hk' hL hO' => (hk k hO').trans ((hlow k hk').trans (h.old k hk' hL hO')), A', c', vals ++ [u], ?_, ?_, ?_, ?_⟩
  · rw [hlen]
    have := (hlow O hO).trans hO1
    simp [World.setCell, Array.getElem?_modify, this]
  · rw [hlen]
    exact owns_keep hown fun r hr => hk r (by have := (owns_block hown r hr).1; omega)
  · rw [hlen]
    intro r hr
    obtain ⟨-, C, hC⟩ := owns_block hown r hr
    exact (Array.getElem?_eq_some_iff.1 hC).1
  · have hvl : vals.length = rs.length := by simpa using hrow.1
    intro j hj
    rw [hlen] at hj
    rcases Nat.lt_or_ge j rs.length with hjl | hjl
    · obtain ⟨u', h3, h4⟩ := hv j hjl
      refine ⟨u', by rw [List.getElem?_append_left (by omega)]; exact h3, ?_⟩
      have e : (rs ++ [x]).getD j [] = rs.getD j [] := by simp [List.getD_eq_getElem?_getD, List.getElem?_append_left hjl]
      rw [e]
      refine h4.keep (Nat.le_trans h2 hg.size) fun k C fr hk0 _ hc => ?_
      rw [hk k (by omega)]; exact hg3 k C fr hc
    · obtain rfl : j = rs.length := by omega
      refine ⟨u, by rw [List.getElem?_append_right (by omega), hvl, Nat.sub_self]; rfl, ?_⟩
      have e : (rs ++ [x]).getD rs.length [] = x := by simp [List.getD_eq_getElem?_getD]
      rw [e]
      refine (IntsX.of_owns hu hf).keep hg.size fun k C fr hk0 _ hc => ?_
      rw [hk k (by omega)]; exact hg3 k C fr hc
end Go.Proofs
namespace Go.Proofs
open Go.RowKit Go.Proofs.Pc
theorem info44w : (Try.prog.info? 50).map (fun i => (i.zero, i.size, i.bytes)) = some (some (.slice none 0 0), 1, 24) := by kernel_rfl
theorem info50p : ∃ i, Try.prog.info? 50 = some i ∧ i.zero = some (.slice none 0 0) ∧ i.size = 1 ∧ i.bytes = 24 := by
  have h := info44w
  cases hq : Try.prog.info? 50 with
  | none => simp [hq] at h
  | some i => simp [hq] at h; exact ⟨i, rfl, h⟩
theorem ints_app (a b : List Int) : ints (a ++ b) = ints a ++ ints b := by simp [ints]
theorem ints_rep (x : Int) (c : Nat) : ints (List.replicate c x) = List.replicate c (Value.int .i64 x) := by simp [ints]
theorem rp_full (x : Int) (c : Nat) : rp x c c = List.replicate c (Value.int .i64 x) := by simp [rp]
theorem owns_base {w : World} {base base' e size n : Nat} {v : Value} {xs : List Value} (h : w.ownsRow base e size v n xs) (hb : base' ≤ base) : w.ownsRow base' e size v n xs := by
  obtain ⟨h1, h2⟩ := h
  refine ⟨h1, ?_⟩
  rcases h2 with h2 | ⟨g, cap, cur, a, b, r⟩
  · exact .inl h2
  · exact .inr ⟨g, cap, cur, a, by omega, r⟩
set_option maxRecDepth 100000 in
set_option maxHeartbeats 1000000 in
theorem add_any {w0 W : World} {lo B L O pr br : Nat} {n : Nat} {rs : List (List Int)} {v : Value} {xs y : List Int}
    (hS : RelSt lo B w0 W L O n rs) (hL : W.heap[L]? = some (.cells #[.int .i64 (tot rs)] 3 (0, 0))) (hLl : L < lo) (hOl : O < lo) (hLO : L ≠ O)
    (hr : W.cell? ⟨pr, 0, none⟩ = some (.pointer (some ⟨br, 0, none⟩))) (hrl : pr < lo) (hn : W.cell? ⟨br, 0, none⟩ = some (.int .i64 n)) (hbl : br < lo)
    (hv : W.ownsRow B 3 1 v xs.length (ints xs)) (hf : Fits xs) (hy : ∀ k, k < n → 0 ≤ y.getD k 0 ∧ y.getD k 0 ≤ 1000) (hn12 : n ≤ 12) (hxl : xs.length ≤ 1000) (hrl1 : rs.length ≤ 1000) (hrt : tot rs ≤ 1000000000) :
    Calls Try.prog 67 #[v, .agg (vec y).toArray, .pointer (some ⟨pr, 0, none⟩), .pointer (some ⟨L, 0, none⟩), .pointer (some ⟨O, 0, none⟩)] W fun e w' => e = .returned (.tuple #[]) ∧
      RelSt lo w'.heap.size w0 w' L O n (rs ++ [xs ++ back y n]) ∧ w'.heap[L]? = some (.cells #[.int .i64 (tot (rs ++ [xs ++ back y n]))] 3 (0, 0)) := by
  have hBW := hS.hs
  have hlB := hS.lh
  obtain ⟨A0, c0, rfl⟩ := owns_form hv
  have hb0 : Below B W (W.alloc (.cells (vec y).toArray 87)) := (Below.refl _ _).alloc hBW _
  have hv0 : (W.alloc (.cells (vec y).toArray 87)).ownsRow B 3 1 (.slice A0 xs.length c0) xs.length (ints xs) := owns_below hv ((Below.refl _ _).alloc (Nat.le_refl _) _)
  have hvec := heap_alloc_new W (.cells (vec y).toArray 87)
  have hst := store_vec_new W y
  have hrr : (W.alloc (.cells (vec y).toArray 87)).cell? ⟨pr, 0, none⟩ = some (.pointer (some ⟨br, 0, none⟩)) := (hb0.cell (p := ⟨pr, 0, none⟩) (by show pr < B; omega)).trans hr
  have hnn : (W.alloc (.cells (vec y).toArray 87)).cell? ⟨br, 0, none⟩ = some (.int .i64 n) := (hb0.cell (p := ⟨br, 0, none⟩) (by show br < B; omega)).trans hn
  have HS := Lib.hid hS
  have HL := Lib.hid hL
  have HF := Lib.hid hf
  have HY := Lib.hid hy
  have HV := Lib.hid hvec
  have HB := Lib.hid hb0
  have HW := Lib.hid hv0
  have hr0 := hr
  have hn0 := hn
  clear hS hL hf hy hvec hb0 hv hv0 hr hn
  go_enter Try.func67, Try.ntmps67
  go_wp2_with fail
  generalize W.alloc (.cells (vec y).toArray 87) = W1 at *
  go_loopw [0, 7] (fun s0 s7 wr => ∃ j A c, j ≤ n ∧ s0 = .slice A (xs ++ backTo y n (n - j)).length c ∧ s7 = .int .i64 ((j : Int) - 1) ∧
      wr.ownsRow B 3 1 (.slice A (xs ++ backTo y n (n - j)).length c) (xs ++ backTo y n (n - j)).length (ints (xs ++ backTo y n (n - j))) ∧ Below B W wr ∧ wr.heap[W.heap.size]? = some (.cells (vec y).toArray 87 (0, 0))) (fun _ s7 _ => (intOf s7 + 1).toNat)
  case atStart =>
    have e : backTo y n (n - n) = [] := by rw [Nat.sub_self]; rfl
    refine ⟨n, A0, c0, Nat.le_refl _, ?_, ?_, ?_, HB.out, HV.out⟩
    · rw [e, List.append_nil]
    · go_num
    · rw [e, List.append_nil]; exact HW.out
  case round =>
    obtain ⟨j, A, c, hj, rfl, rfl, hown, hbel, hvec⟩ := hrel
    have HO := Lib.hid hown
    have HBl := Lib.hid hbel
    have hrj : wr.cell? ⟨pr, 0, none⟩ = some (.pointer (some ⟨br, 0, none⟩)) := (hbel.cell (p := ⟨pr, 0, none⟩) (by show pr < B; omega)).trans hr0
    have hnj : wr.cell? ⟨br, 0, none⟩ = some (.int .i64 n) := (hbel.cell (p := ⟨br, 0, none⟩) (by show br < B; omega)).trans hn0
    have HVj := Lib.hid hvec
    clear hown hbel
    rcases j with _ | i
    · have d0 : ((0 : Nat) : Int) - 1 = -1 := by omega
      simp only [d0]
      have hzl : (xs ++ backTo y n (n - 0)).length ≤ 13000 := by
        have := backTo_len y n HY.out (n - 0) (by omega)
        rw [List.length_append]; omega
      have hzf : Fits (xs ++ backTo y n (n - 0)) := fun x hx => by
        rcases List.mem_append.1 hx with h | h
        · exact HF.out x h
        · have := backTo_fits y n hn12 (n - 0) (by omega) x h
          omega
      have hzb : xs ++ backTo y n (n - 0) = xs ++ back y n := rfl
      have HZB := Lib.hid hzb
      have HZF := Lib.hid hzf
      clear hzb hzf
      generalize xs ++ backTo y n (n - 0) = Z at *
      have hLj : wr.heap[L]? = some (.cells #[.int .i64 (tot rs)] 3 (0, 0)) := (HBl.out.block L (by omega)).trans HL.out
      have hcL : wr.cell? ⟨L, 0, none⟩ = some (.int .i64 (tot rs)) := by rw [cell_of_row _ _ _ _ _ _ hLj]; rfl
      have hfL : wr.frozen? ⟨L, 0, none⟩ = false := by simp [World.frozen?, hLj]
      have hSj := (HS.out.below hOl HBl.out).setL hLl hLO 0 (.int .i64 (tot rs + (Z.length : Int)))
      have htn := tot_nonneg rs
      have hz0 : (0 : Int) ≤ (Z.length : Int) := Int.natCast_nonneg _
      have hz1 : (Z.length : Int) ≤ 13000 := by omega
      have HSJ := Lib.hid hSj
      have HLJ := Lib.hid hLj
      obtain ⟨A1, c1, vals, hoj, hrow, hrb, hvs⟩ := hSj.out
      have hcO : (wr.setCell ⟨L, 0, none⟩ (.int .i64 (tot rs + (Z.length : Int)))).cell? ⟨O, 1, none⟩ = some (.slice A1 rs.length c1) := by rw [cell_of_row _ _ _ _ _ _ hoj]; rfl
      have HOJ := Lib.hid hoj
      have HRW := Lib.hid hrow
      have HVS := Lib.hid hvs
      clear hSj hLj hoj hrow hvs
      have hsl : (wr.setCell ⟨L, 0, none⟩ (.int .i64 (tot rs + (Z.length : Int)))).heap.size = wr.heap.size := by simp [World.setCell]
      have hb5 : ∀ o, Below wr.heap.size (wr.setCell ⟨L, 0, none⟩ (.int .i64 (tot rs + (Z.length : Int)))) ((wr.setCell ⟨L, 0, none⟩ (.int .i64 (tot rs + (Z.length : Int)))).alloc o) := fun o => (Below.refl _ _).alloc (by omega) _
      have hn5 : ∀ j u, [Value.slice A Z.length c][j]? = some u → ((wr.setCell ⟨L, 0, none⟩ (.int .i64 (tot rs + (Z.length : Int)))).alloc (.cells #[Value.slice A Z.length c] 50)).cell? ((⟨wr.heap.size, 0, none⟩ : Addr).add j) = some u := by
        have := cell_one_new (wr.setCell ⟨L, 0, none⟩ (.int .i64 (tot rs + (Z.length : Int)))) (Value.slice A Z.length c) 50
        rw [hsl] at this; exact this
      have hBs : B ≤ wr.heap.size := Nat.le_trans hBW HBl.out.size
      have hrw5 : ((wr.setCell ⟨L, 0, none⟩ (.int .i64 (tot rs + (Z.length : Int)))).alloc (.cells #[Value.slice A Z.length c] 50)).ownsRow lo 50 1 (.slice A1 rs.length c1) rs.length vals := owns_keep HRW.out fun r hr => (hb5 _).block r (by have := hrb r hr; omega)
      have hs5 : RelSt lo B w0 ((wr.setCell ⟨L, 0, none⟩ (.int .i64 (tot rs + (Z.length : Int)))).alloc (.cells #[Value.slice A Z.length c] 50)) L O n rs := HSJ.out.below hOl ((hb5 _).mono hBs)
      have ho5 := ((hb5 (.cells #[Value.slice A Z.length c] 50)).block O (by omega)).trans HOJ.out
      have hw5 : ((wr.setCell ⟨L, 0, none⟩ (.int .i64 (tot rs + (Z.length : Int)))).alloc (.cells #[Value.slice A Z.length c] 50)).ownsRow lo 3 1 (.slice A Z.length c) Z.length (ints Z) := owns_base (owns_keep HO.out fun r hr => by
        obtain ⟨h1, C, h2⟩ := owns_block HO.out r hr
        rw [(hb5 _).block r (Array.getElem?_eq_some_iff.1 h2).1]
        exact Below.heap_setCell wr ⟨L, 0, none⟩ _ r (by show r ≠ L; omega)) hlB
      have hl5 : ((wr.setCell ⟨L, 0, none⟩ (.int .i64 (tot rs + (Z.length : Int)))).alloc (.cells #[Value.slice A Z.length c] 50)).heap[L]? = some (.cells #[.int .i64 (tot rs + (Z.length : Int))] 3 (0, 0)) := by
        rw [(hb5 _).block L (by omega)]
        simp [World.setCell, Array.getElem?_modify, HLJ.out]
      have hv5 : ∀ j, j < rs.length → ∃ u, vals[j]? = some u ∧ IntsX lo B ((wr.setCell ⟨L, 0, none⟩ (.int .i64 (tot rs + (Z.length : Int)))).alloc (.cells #[Value.slice A Z.length c] 50)) u (rs.getD j []) := fun j hj => by
        obtain ⟨u, hu, hx⟩ := HVS.out j hj
        exact ⟨u, hu, hx.keep (Nat.le_refl _) fun k C fr _ hk hc => ((hb5 _).block k (by omega)).trans hc⟩
      have HN5 := Lib.hid hn5
      have HRW5 := Lib.hid hrw5
      have HS5 := Lib.hid hs5
      have HO5 := Lib.hid ho5
      have HW5 := Lib.hid hw5
      have HL5 := Lib.hid hl5
      have HV5 := Lib.hid hv5
      have HZ5 : Hid (lo ≤ ((wr.setCell ⟨L, 0, none⟩ (.int .i64 (tot rs + (Z.length : Int)))).alloc (.cells #[Value.slice A Z.length c] 50)).heap.size) := Lib.hid (by have := hs5.hs; omega)
      clear hn5 hrw5 hs5 ho5 hw5 hl5 hb5 hv5 hsl hrb
      obtain ⟨i50, hi50, hz50, hs50, hb50⟩ := info50p
      have HT := Lib.hid (rfl : tot rs = tot rs)
      generalize hTe : tot rs = T at *
      have HTE := Lib.hid hTe
      clear hTe
      go_wp2_with (first
        | (at_builtin
           refine wpList_append_own_at _ rfl (.tmp 32) (.tmp 34) 44 (by rfl) lo 50 i50 (.slice none 0 0) 1 24 Try.underlying44 hi50 hz50 hs50 hb50 rfl (by omega) _ _ _ rfl HRW5.out _ 1 1 [.slice A Z.length c] rfl rfl HN5.out (fun u hu => by simp at hu; rw [hu]; rfl) ?_ ?_ HZ5.out ?_
           rotate_left 2
           intro v' w6 hown6 hgrow hnil hat
           obtain ⟨A6, c6, rfl⟩ := owns_form hown6
           have hO6 : w6.heap[O]? = some (.cells #[.int .i64 n, .slice A1 rs.length c1] 46 (0, 0)) := (hgrow.block O (Array.getElem?_eq_some_iff.1 HO5.out).1 fun e => by have := (owns_block HRW5.out O e.symm).1; omega).trans HO5.out
           have hc6 : w6.cell? ⟨O, 1, none⟩ = some (.slice A1 rs.length c1) := by rw [cell_of_row _ _ _ _ _ _ hO6]; rfl
           have hf6 : w6.frozen? ⟨O, 1, none⟩ = false := by simp [World.frozen?, hO6]
           have HOWN := Lib.hid hown6
           have HG := Lib.hid hgrow
           clear hown6 hgrow hnil hat hO6))
      · go_end0
        have hnx := HS5.out.next hOl HRW5.out HV5.out ⟨_, HO5.out⟩ HW5.out HZF.out HG.out HOWN.out
        refine ⟨rfl, ?_, ?_⟩
        · rw [← HZB.out]
          simpa [World.setCell] using hnx
        · rw [← HZB.out, tot_snoc, HTE.out, Below.heap_setCell w6 ⟨O, 1, none⟩ _ L hLO]
          exact (HG.out.block L (Array.getElem?_eq_some_iff.1 HL5.out).1 fun e => by have := (owns_block HRW5.out L e.symm).1; omega).trans HL5.out
      · unfold maxLen; omega
      · omega
    · have d0 : ((i + 1 : Nat) : Int) - 1 = (i : Int) := by omega
      simp only [d0]
      have hi0 : (0 : Int) ≤ (i : Int) := Int.natCast_nonneg _
      have hi12 : (i : Int) < 12 := by omega
      obtain ⟨q, hq⟩ : ∃ q : Nat, y.getD i 0 = (q : Int) := ⟨(y.getD i 0).toNat, by have := (HY.out i (by omega)).1; omega⟩
      have hq1 : q ≤ 1000 := by have := (HY.out i (by omega)).2; omega
      have hWlt : W.heap.size < wr.heap.size := (Array.getElem?_eq_some_iff.1 hvec).1
      have hcv : (wr.alloc (.cells #[.int .i64 (-(i : Int) - 1)] 3)).cell? ⟨W.heap.size, i, none⟩ = some (.int .i64 (q : Int)) := by
        rw [cell_of_row _ _ _ _ _ _ ((((Below.refl _ wr).alloc (Nat.le_refl _) _).block _ hWlt).trans hvec), List.getElem?_toArray, getElem?_vec _ (by omega), hq]
      have hcx : (wr.alloc (.cells #[.int .i64 (-(i : Int) - 1)] 3)).cell? ⟨wr.heap.size, 0, none⟩ = some (.int .i64 (-(i : Int) - 1)) := by
        rw [cell_of_row _ _ _ _ _ _ (heap_alloc_new wr _)]; rfl
      have HREP := Lib.hid (repeat_any _ wr.heap.size 0 1 (-(i : Int) - 1) q hq1 hcx)
      have hbw1 : Below wr.heap.size wr (wr.alloc (.cells #[.int .i64 (-(i : Int) - 1)] 3)) := (Below.refl _ _).alloc (Nat.le_refl _) _
      have HBW1 := Lib.hid hbw1
      have HQ := Lib.hid hq
      have hsz1 : (wr.alloc (.cells #[.int .i64 (-(i : Int) - 1)] 3)).heap.size = wr.heap.size + 1 := by simp
      clear hbw1 hcx hq hvec
      obtain ⟨i3, hi3, hz3, hs3, hb3⟩ := info3p
      have hBs : B ≤ wr.heap.size := Nat.le_trans hBW HBl.out.size
      have hbt := backTo_step y (n := n) (i := i) (by omega)
      have hzl : (xs ++ backTo y n (n - (i + 1))).length ≤ 13000 := by
        have := backTo_len y n HY.out (n - (i + 1)) (by omega)
        rw [List.length_append]; omega
      have HBT := Lib.hid hbt
      clear hbt
      generalize hZ : xs ++ backTo y n (n - (i + 1)) = Z at *
      have HZ := Lib.hid hZ
      clear hZ
      go_wp2_with (first
        | (go_at_call 68
           (refine HREP.out.mono ?_)
           rintro e w2 ⟨u, rfl, ⟨g, rfl, hg1, hg2⟩, hb2⟩
           have hbw2 : Below wr.heap.size wr w2 := HBW1.out.trans (hb2.mono (by rw [hsz1]; omega))
           have hnews : ∀ j u, (rp (-(i : Int) - 1) q q)[j]? = some u → w2.cell? ((⟨g, 0, none⟩ : Addr).add j) = some u := World.news_of_block hg2
           have hown2 := owns_below HO.out hbw2
           have HN := Lib.hid hnews
           have HO2 := Lib.hid hown2
           have HB2 := Lib.hid hbw2
           have hWlt2 : wr.heap.size ≤ w2.heap.size := hbw2.size
           clear hnews hown2 hbw2 hg2 hb2)
        | (at_builtin
           refine wpList_append_own_at _ rfl (.tmp 17) (.tmp 25) 50 (by rfl) B 3 i3 (.int .i64 0) 1 8 Try.underlying50 hi3 hz3 hs3 hb3 rfl (by omega) _ _ _ rfl HO2.out _ q q (rp (-(i : Int) - 1) q q) rfl (by rw [length_rp _ (Nat.le_refl _), Nat.mul_one]) HN.out (fun u hu => by rw [rp_full] at hu; rw [(List.mem_replicate.1 hu).2]; rfl) ?_ ?_ ?_ ?_
           rotate_left 3
           intro v' w3 hown3 hgrow hnil hat))
      · obtain ⟨A', c', rfl⟩ := owns_form hown3
        have hW : xs ++ backTo y n (n - i) = Z ++ List.replicate q (-(i : Int) - 1) := by rw [HBT.out, HQ.out, ← HZ.out, List.append_assoc]; rfl
        have hl : (xs ++ backTo y n (n - i)).length = Z.length + q := by rw [hW, List.length_append, List.length_replicate]
        have hown2 := owns_block HO2.out
        have hB3 : Below B W w3 := (HBl.out.trans (HB2.out.mono hBs)).grown hgrow (Nat.le_trans hBW (Nat.le_trans HBl.out.size HB2.out.size)) fun k hk => (hown2 k hk).1
        have hv3 : w3.heap[W.heap.size]? = some (.cells (vec y).toArray 87 (0, 0)) := by
          have h2 : w2.heap[W.heap.size]? = some (.cells (vec y).toArray 87 (0, 0)) := (HB2.out.block _ hWlt).trans HVj.out
          refine (hgrow.block _ (by omega) fun e => ?_).trans h2
          obtain ⟨-, C, hC⟩ := hown2 _ e.symm
          rw [h2] at hC; cases hC
        refine ⟨⟨i, A', c', by omega, by rw [hl], rfl, ?_, hB3, hv3⟩, by simp [intOf]⟩
        rw [hl, hW, ints_app, ints_rep, ← rp_full]
        exact hown3
      · unfold maxLen; omega
      · omega
      · omega
end Go.Proofs
namespace Go.Proofs
open Go.RowKit Go.Proofs.Pc
structure Bc (w : World) (a0 a1 a2 : Value) (W : World) : Prop where
  below : Below w.heap.size w W
  box : W.heap[w.heap.size]? = some (.cells #[a0, a1, a2] 26 (0, 0))
theorem Bc.step {w W W' : World} {a0 a1 a2 : Value} (h : Bc w a0 a1 a2 W) (hb : Below W.heap.size W W') : Bc w a0 a1 a2 W' :=
  ⟨h.below.trans (hb.mono h.below.size), (hb.block _ (Array.getElem?_eq_some_iff.1 h.box).1).trans h.box⟩
theorem Bc.c0 {w W : World} {a0 a1 a2 : Value} (h : Bc w a0 a1 a2 W) : W.cell? ⟨w.heap.size, 0, none⟩ = some a0 := by rw [cell_of_row _ _ _ _ _ _ h.box]; rfl
theorem Bc.c1 {w W : World} {a0 a1 a2 : Value} (h : Bc w a0 a1 a2 W) : W.cell? ⟨w.heap.size, 1, none⟩ = some a1 := by rw [cell_of_row _ _ _ _ _ _ h.box]; rfl
theorem Bc.c2 {w W : World} {a0 a1 a2 : Value} (h : Bc w a0 a1 a2 W) : W.cell? ⟨w.heap.size, 2, none⟩ = some a2 := by rw [cell_of_row _ _ _ _ _ _ h.box]; rfl
theorem prod_bd {P : PcD} : ∀ k, firstNZ (overErr P) k = 0 → firstP (ordErr P) P.n = (0, 0) → k ≤ P.n → 0 ≤ prod P k ∧ prod P k ≤ 50000
  | 0, _, _, _ => ⟨by show (0 : Int) ≤ 1; omega, by show (1 : Int) ≤ 50000; omega⟩
  | k + 1, h, ho, hk => by
    have h1 := firstNZ_zero h k (by omega)
    have h0 : firstNZ (overErr P) k = 0 := by
      have h' : (if firstNZ (overErr P) k = 0 then overErr P k else firstNZ (overErr P) k) = 0 := h
      by_cases e : firstNZ (overErr P) k = 0
      · exact e
      · rw [if_neg e] at h'; exact absurd h' e
    have hi := prod_bd k h0 ho (by omega)
    have hd := firstP_zero (f := ordErr P) (by rw [ho]) k (by omega)
    unfold overErr at h1
    unfold ordErr at hd
    have h2 : prod P (k + 1) ≤ 50000 := by
      by_cases e : prod P (k + 1) ≤ 50000
      · exact e
      · rw [if_neg e] at h1; cases h1
    have h3 : 2 ≤ P.ord k ∧ P.ord k ≤ 1000 := by
      by_cases e : 2 ≤ P.ord k ∧ P.ord k ≤ 1000
      · exact e
      · rw [if_neg e] at hd; cases hd
    exact ⟨Int.mul_nonneg hi.1 (by omega), h2⟩
/-- a cell of the powers, and of the conjugates, of whatever length -/
theorem pow_cell' {w : World} {A1 : Option Addr} {c1 : Nat} {v0 v2 : Value} {P : PcD} (h : PcAt w v0 (.slice A1 P.powers.length c1) v2 P) {i : Nat} (hi : i < P.powers.length) :
    ∃ b o A cc, A1 = some ⟨b, o, none⟩ ∧ w.cell? ⟨b, o + i, none⟩ = some (.slice A (P.pow i).length cc) ∧ IntsAt w (.slice A (P.pow i).length cc) (P.pow i) := by
  obtain ⟨A, c, e, -, -, hr⟩ := h.2.1.open_
  cases e
  obtain ⟨b, o, rfl, hc⟩ := hr (by omega)
  obtain ⟨u, hu, hI⟩ := hc i hi
  obtain ⟨A', c', rfl, -⟩ := hI.open_
  exact ⟨b, o, A', c', rfl, hu, hI⟩
theorem conj_row' {w : World} {A2 : Option Addr} {c2 : Nat} {v0 v1 : Value} {P : PcD} (h : PcAt w v0 v1 (.slice A2 P.conj.length c2) P) {j : Nat} (hj : j < P.conj.length) :
    ∃ b o A cc, A2 = some ⟨b, o, none⟩ ∧ w.cell? ⟨b, o + j, none⟩ = some (.slice A (P.conj.getD j []).length cc) ∧ (P.conj.getD j []).length ≤ cc ∧ cc ≤ 9223372036854775807 ∧ Tab w (.slice A (P.conj.getD j []).length cc) (P.conj.getD j []) := by
  obtain ⟨A, c, e, -, -, hr⟩ := h.2.2.open_
  cases e
  obtain ⟨b, o, rfl, hc⟩ := hr (by omega)
  obtain ⟨u, hu, hT⟩ := hc j hj
  obtain ⟨A', c', rfl, h1, h2, -⟩ := hT.open_
  exact ⟨b, o, A', c', rfl, hu, h1, h2, hT⟩
theorem row_cell' {w : World} {A : Option Addr} {n cc : Nat} {L : List (List Int)} (h : Tab w (.slice A n cc) L) {i : Nat} (hi : i < L.length) :
    ∃ b o A' c', A = some ⟨b, o, none⟩ ∧ w.cell? ⟨b, o + i, none⟩ = some (.slice A' (L.getD i []).length c') ∧ IntsAt w (.slice A' (L.getD i []).length c') (L.getD i []) := by
  obtain ⟨A1, c, e, -, -, hr⟩ := h.open_
  cases e
  obtain ⟨b, o, rfl, hc⟩ := hr (by omega)
  obtain ⟨u, hu, hI⟩ := hc i hi
  obtain ⟨A', c', rfl, -⟩ := hI.open_
  exact ⟨b, o, A', c', rfl, hu, hI⟩
set_option maxRecDepth 100000 in
set_option maxHeartbeats 2000000 in
theorem checkRef_any (w : World) (v0 v1 v2 : Value) (P : PcD) (hP : PcAt w v0 v1 v2 P) :
    Calls Try.prog 25 #[.agg #[v0, v1, v2]] w fun e w' => e = .returned (.tuple #[.int .i64 (checkD P).1, .int .i64 (checkD P).2]) ∧ Below w.heap.size w w' := by
  obtain ⟨⟨A0, c0, rfl⟩, ⟨A1, c1, rfl⟩, A2, c2, rfl⟩ := pc_slices hP
  have HP := Lib.hid hP
  have hD0 : Bc w (.slice A0 P.orders.length c0) (.slice A1 P.powers.length c1) (.slice A2 P.conj.length c2) (w.alloc (.cells #[.slice A0 P.orders.length c0, .slice A1 P.powers.length c1, .slice A2 P.conj.length c2] 26)) := ⟨(Below.refl _ _).alloc (Nat.le_refl _) _, heap_alloc_new w _⟩
  have hn : P.n = P.orders.length := rfl
  obtain ⟨A0', c0', e0, -, hmx0, hr0⟩ := hP.1.open_
  cases e0
  have HR0 := Lib.hid hr0
  have HD := Lib.hid hD0
  have HN := Lib.hid hn
  clear hr0 hP hn
  by_cases h12 : P.orders.length ≤ 12
  case neg =>
    have d1 : decide ((12 : Int) < (P.orders.length : Int)) = true := by simp; omega
    have hl : checkD P = (4, 0) := by
      have : lenErr P = 4 := by unfold lenErr; rw [if_neg (by rw [HN.out]; exact h12)]
      unfold checkD orElse; rw [this]; rfl
    have HL := Lib.hid hl
    clear hl
    go_enter Try.func25, Try.ntmps25
    go_wp2_with fail
    go_ret2
    exact ⟨by first | (rw [HL.out]; done) | (rw [HL.out]; rfl), HD.out.below⟩
  have d1 : decide ((12 : Int) < (P.orders.length : Int)) = false := by simp; omega
  by_cases hle : P.powers.length = P.n ∧ P.conj.length = P.n
  case neg =>
    have hl : checkD P = (3, 0) := by
      have : lenErr P = 3 := by unfold lenErr; rw [if_pos (by rw [HN.out]; exact h12), if_neg hle]
      unfold checkD orElse; rw [this]; rfl
    have HL := Lib.hid hl
    rw [HN.out] at hle
    clear hl
    by_cases hp : P.powers.length = P.orders.length
    · have d2 : ((P.powers.length : Int) != (P.orders.length : Int)) = false := by simp; omega
      have d2' : (P.powers.length != P.orders.length) = false := by simp; omega
      have d3 : ((P.conj.length : Int) != (P.orders.length : Int)) = true := by simp; omega
      have d3' : (P.conj.length != P.orders.length) = true := by simp; omega
      have HPP := Lib.hid hp
      clear hp hle
      go_enter Try.func25, Try.ntmps25
      go_wp2_with fail
      go_ret2
      exact ⟨by first | (rw [HL.out]; done) | (rw [HL.out]; rfl), HD.out.below⟩
    · have d2 : ((P.powers.length : Int) != (P.orders.length : Int)) = true := by simp; omega
      have d2' : (P.powers.length != P.orders.length) = true := by simp; omega
      clear hp hle
      go_enter Try.func25, Try.ntmps25
      go_wp2_with fail
      go_ret2
      exact ⟨by first | (rw [HL.out]; done) | (rw [HL.out]; rfl), HD.out.below⟩
  have hl0 : lenErr P = 0 := by unfold lenErr; rw [if_pos (by rw [HN.out]; exact h12), if_pos hle]
  rw [HN.out] at hle
  have HPL := Lib.hid hle.1
  have HCL := Lib.hid hle.2
  have d2 : ((P.powers.length : Int) != (P.orders.length : Int)) = false := by simp; omega
  have d2' : (P.powers.length != P.orders.length) = false := by simp; omega
  have d3 : ((P.conj.length : Int) != (P.orders.length : Int)) = false := by simp; omega
  have d3' : (P.conj.length != P.orders.length) = false := by simp; omega
  have HL0 := Lib.hid hl0
  clear hle hl0
  go_enter Try.func25, Try.ntmps25
  go_wp2_with fail
  generalize hWW : w.alloc (.cells #[.slice A0 P.orders.length c0, .slice A1 P.powers.length c1, .slice A2 P.conj.length c2] 26) = W at *
  have HWW := Lib.hid hWW
  clear hWW hD0
  have k0 := HD.out.c0
  have k1 := HD.out.c1
  have k2 := HD.out.c2
  go_loop [5] (fun s => ∃ k : Nat, k ≤ P.orders.length ∧ s = .int .i64 k ∧ firstP (ordErr P) k = (0, 0)) (fun s => P.orders.length - (intOf s).toNat)
  case atStart => exact ⟨0, Nat.zero_le _, rfl, rfl⟩
  case round =>
    obtain ⟨k, hk, rfl, hz⟩ := hrel
    have HZ := Lib.hid hz
    clear hz
    by_cases hlt : k < P.orders.length
    · obtain ⟨b0, o0, rfl, hc⟩ := HR0.out (by omega)
      have hck : W.cell? ⟨b0, o0 + k, none⟩ = some (.int .i64 (P.orders.getD k 0)) := (KC.of_below HD.out.below).cell (hc k hlt)
      have hoe : ordErr P k = if 2 ≤ P.orders.getD k 0 ∧ P.orders.getD k 0 ≤ 1000 then 0 else 2 := rfl
      have HOE := Lib.hid hoe
      have hk0 : (0 : Int) ≤ (k : Int) := Int.natCast_nonneg _
      have hkn : (k : Int) < (P.orders.length : Int) := by omega
      clear hc hoe
      generalize P.orders.getD k 0 = x at *
      by_cases h2 : x < 2
      · have d4 : decide (x < 2) = true := by simpa using h2
        have hf := firstP_hit HZ.out (by rw [HOE.out, if_neg (by omega)]; decide) P.n hlt
        rw [HOE.out, if_neg (by omega)] at hf
        have HF := Lib.hid hf
        clear hf
        go_wp2_with fail
        go_ret2
        exact ⟨by unfold checkD orElse; rw [if_pos HL0.out, HF.out]; rfl, HD.out.below⟩
      · have d4 : decide (x < 2) = false := by simpa using h2
        by_cases h3 : 1000 < x
        · have d5 : decide (1000 < x) = true := by simpa using h3
          have hf := firstP_hit HZ.out (by rw [HOE.out, if_neg (by omega)]; decide) P.n hlt
          rw [HOE.out, if_neg (by omega)] at hf
          have HF := Lib.hid hf
          clear hf
          go_wp2_with fail
          go_ret2
          exact ⟨by unfold checkD orElse; rw [if_pos HL0.out, HF.out]; rfl, HD.out.below⟩
        · have d5 : decide (1000 < x) = false := by simpa using h3
          go_wp2_with fail
          go_round
          case rel => exact ⟨k + 1, by omega, by go_num, firstP_step HZ.out (by rw [HOE.out, if_pos (by omega)])⟩
          case measure => simp [intOf]; omega
    · obtain rfl : k = P.orders.length := by omega
      have HZ1 : Hid (firstP (ordErr P) P.n = (0, 0)) := HZ
      go_wp2_with fail
      go_loop [6, 7] (fun t s => ∃ k : Nat, k ≤ P.orders.length ∧ s = .int .i64 k ∧ t = .int .i64 (prod P k) ∧ firstNZ (overErr P) k = 0) (fun _ s => P.orders.length - (intOf s).toNat)
      case atStart => exact ⟨0, Nat.zero_le _, rfl, rfl, rfl⟩
      case round =>
        obtain ⟨k, hk, rfl, rfl, hz⟩ := hrel
        have HZ2 := Lib.hid hz
        clear hz
        by_cases hlt : k < P.orders.length
        · obtain ⟨b0, o0, rfl, hc⟩ := HR0.out (by omega)
          have hck : W.cell? ⟨b0, o0 + k, none⟩ = some (.int .i64 (P.orders.getD k 0)) := (KC.of_below HD.out.below).cell (hc k hlt)
          have hk0 : (0 : Int) ≤ (k : Int) := Int.natCast_nonneg _
          have hkn : (k : Int) < (P.orders.length : Int) := by omega
          have hbd := prod_bd k HZ2.out HZ1.out (by rw [HN.out]; exact hk)
          have hod := firstP_zero (f := ordErr P) (congrArg Prod.fst HZ1.out) k hlt
          have hx : 2 ≤ P.orders.getD k 0 ∧ P.orders.getD k 0 ≤ 1000 := by
            have hoe : ordErr P k = if 2 ≤ P.orders.getD k 0 ∧ P.orders.getD k 0 ≤ 1000 then 0 else 2 := rfl
            rw [hoe] at hod
            by_cases e : 2 ≤ P.orders.getD k 0 ∧ P.orders.getD k 0 ≤ 1000
            · exact e
            · rw [if_neg e] at hod; cases hod
          have hps : prod P (k + 1) = prod P k * P.orders.getD k 0 := rfl
          have hov : overErr P k = if prod P k * P.orders.getD k 0 ≤ 50000 then 0 else 5 := rfl
          have hmw : IntKind.i64.wrap (prod P k * P.orders.getD k 0) = prod P k * P.orders.getD k 0 := by
            have h1 : prod P k * P.orders.getD k 0 ≤ 50000 * 1000 := Int.mul_le_mul hbd.2 hx.2 (by omega) (by omega)
            have h2 : 0 ≤ prod P k * P.orders.getD k 0 := Int.mul_nonneg hbd.1 (by omega)
            exact IntWalk.i64_in _ (by omega)
          have HPS := Lib.hid hps
          have HOV := Lib.hid hov
          clear hc hod hps hov
          generalize P.orders.getD k 0 = x at *
          have hpa : prod P k = prod P k := rfl
          generalize hap : prod P k = a at *
          have HAP := Lib.hid hap
          clear hap hpa
          by_cases h5 : a * x ≤ 50000
          · have d6 : decide ((50000 : Int) < a * x) = false := by simp; omega
            go_wp2_with fail
            go_round
            case rel => exact ⟨k + 1, by omega, by go_num, by rw [HPS.out], firstNZ_step HZ2.out (by rw [HOV.out, if_pos h5])⟩
            case measure => simp [intOf]; omega
          · have d6 : decide ((50000 : Int) < a * x) = true := by simp; omega
            have hf := firstNZ_hit HZ2.out (by rw [HOV.out, if_neg h5]; decide) P.n hlt
            rw [HOV.out, if_neg h5] at hf
            have HF := Lib.hid hf
            clear hf
            go_wp2_with fail
            go_ret2
            exact ⟨by unfold checkD orElse; rw [if_pos HL0.out, HZ1.out, if_pos rfl, HF.out]; rfl, HD.out.below⟩
        · obtain rfl : k = P.orders.length := by omega
          have HZ3 : Hid (firstNZ (overErr P) P.n = 0) := HZ2
          go_wp2_with fail
          go_loopw [8] (fun s wr => ∃ k : Nat, k ≤ P.orders.length ∧ s = .int .i64 k ∧ firstP (genErr P) k = (0, 0) ∧ Bc w (.slice A0 P.orders.length c0) (.slice A1 P.powers.length c1) (.slice A2 P.conj.length c2) wr) (fun s _ => P.orders.length - (intOf s).toNat)
          case atStart => exact ⟨0, Nat.zero_le _, rfl, rfl, HD.out⟩
          case round =>
            clear k0 k1 k2
            obtain ⟨k, hk, rfl, hz, hD⟩ := hrel
            have HZ4 := Lib.hid hz
            have HD := Lib.hid hD
            have k0 := HD.out.c0
            have k1 := HD.out.c1
            have k2 := HD.out.c2
            clear hz hD
            by_cases hlt : k < P.orders.length
            · have hk0 : (0 : Int) ≤ (k : Int) := Int.natCast_nonneg _
              have hkn : (k : Int) < (P.orders.length : Int) := by omega
              have hkp : (k : Int) < (P.powers.length : Int) := by rw [HPL.out]; omega
              have hkc : (k : Int) < (P.conj.length : Int) := by rw [HCL.out]; omega
              have hPr := HP.out.below HD.out.below
              obtain ⟨b1, o1, A3, c3, rfl, hcp, hIp⟩ := pow_cell' hPr (i := k) (by rw [HPL.out]; exact hlt)
              obtain ⟨b2, o2, A4, c4, rfl, hcc, hc41, hc42, hTc⟩ := conj_row' hPr (j := k) (by rw [HCL.out]; exact hlt)
              have hge : genErr P k = if listErr P (P.pow k) ((k : Int) + 1) = 0 then (if (P.conj.getD k []).length = k then firstNZ (fun i => listErr P (P.cj k i) ((i : Int) + 1)) k else 3) else listErr P (P.pow k) ((k : Int) + 1) := rfl
              have hlp : listErr P (P.pow k) ((k : Int) + 1) = if (P.pow k).length = P.orders.length then (if normalB P.orders (P.pow k) ((k : Int) + 1) then 0 else 2) else 3 := rfl
              have HD' := HD
              have hcc0 := Lib.hid hcc
              have HGE := Lib.hid hge
              have HLP := Lib.hid hlp
              have HI0 := Lib.hid hPr.1
              have HIP := Lib.hid hIp
              have HTC := Lib.hid hTc
              have hcje : ∀ i, P.cj k i = (P.conj.getD k []).getD i [] := fun i => rfl
              have HCJ := Lib.hid hcje
              clear hge hlp hPr hIp hTc hcje
              generalize hrow : P.conj.getD k [] = row at *
              have HRow := Lib.hid hrow
              clear hrow
              have hfin : genErr P k ≠ 0 → checkD P = (genErr P k, (k : Int) + 1) := fun hne => by
                have := firstP_hit HZ4.out hne P.n hlt
                unfold checkD orElse; rw [if_pos HL0.out, HZ1.out, if_pos rfl, if_pos HZ3.out, this]
              have HFIN := Lib.hid hfin
              clear hfin
              by_cases hpl : (P.pow k).length = P.orders.length
              case neg =>
                have d7 : (((P.pow k).length : Int) != (P.orders.length : Int)) = true := by simp; omega
                have d7' : ((P.pow k).length != P.orders.length) = true := by simp; omega
                have hg : genErr P k = 3 := by rw [HGE.out, HLP.out, if_neg hpl]; rfl
                have hf := HFIN.out (by rw [hg]; decide)
                rw [hg] at hf
                have HF := Lib.hid hf
                clear hg hf hpl
                go_wp2_with fail
                go_ret2
                exact ⟨by first | (rw [HF.out]; done) | (rw [HF.out]; rfl), HD.out.below⟩
              have d7 : (((P.pow k).length : Int) != (P.orders.length : Int)) = false := by simp; omega
              have d7' : ((P.pow k).length != P.orders.length) = false := by simp; omega
              have HPW := Lib.hid hpl
              clear hpl
              go_wp2_with fail
              go_still_tail 8, (by kernel_rfl)
              change wpList _ _ _ _ _ wr.drew
              obtain ⟨wd, hwd⟩ : ∃ wd, wd = wr.drew := ⟨_, rfl⟩
              have hkd : Below wr.heap.size wr wd := by rw [hwd]; exact (Below.refl _ _).drew
              rw [← hwd]
              clear hwd
              have HK := Lib.hid (normalRef_any wd _ (.slice (some ⟨b1, o1, none⟩) P.powers.length c1) (.slice (some ⟨b2, o2, none⟩) P.conj.length c2) _ P.orders (P.pow k) ((k : Int) + 1) (HI0.out.below hkd) (HIP.out.below hkd) (by rw [HPW.out]; exact Nat.le_refl _))
              have HKD := Lib.hid hkd
              clear hkd
              by_cases hnb : normalB P.orders (P.pow k) ((k : Int) + 1) = true
              case neg =>
                have hnb' : normalB P.orders (P.pow k) ((k : Int) + 1) = false := by simpa using hnb
                have hg : genErr P k = 2 := by rw [HGE.out, HLP.out, if_pos HPW.out, if_neg hnb]; rfl
                have hf := HFIN.out (by rw [hg]; decide)
                rw [hg] at hf
                have HF := Lib.hid hf
                have HNB := Lib.hid hnb'
                clear hg hf hnb hnb'
                go_wp2_with (go_at_call 66; (refine HK.out.mono ?_); rintro e w5 ⟨rfl, hb5⟩; rw [HNB.out]; have HD := Lib.hid (HD.out.step (HKD.out.trans (hb5.mono HKD.out.size))); clear hb5)
                go_ret2
                exact ⟨by first | (rw [HF.out]; done) | (rw [HF.out]; rfl), HD.out.below⟩
              have hl0 : listErr P (P.pow k) ((k : Int) + 1) = 0 := by rw [HLP.out, if_pos HPW.out, if_pos hnb]
              have HLL := Lib.hid hl0
              have HNB := Lib.hid hnb
              clear hnb hl0
              by_cases hrl : row.length = k
              case neg =>
                have d8 : ((row.length : Int) != (k : Int)) = true := by simp; omega
                have d8' : (row.length != k) = true := by simp; omega
                have hg : genErr P k = 3 := by rw [HGE.out, if_pos HLL.out, if_neg hrl]
                have hf := HFIN.out (by rw [hg]; decide)
                rw [hg] at hf
                have HF := Lib.hid hf
                clear hg hf hrl
                go_wp2_with (go_at_call 66; (refine HK.out.mono ?_); rintro e w5 ⟨rfl, hb5⟩; rw [HNB.out]; have HB5 := Lib.hid (HKD.out.trans (hb5.mono HKD.out.size)); have HD := Lib.hid (HD.out.step HB5.out); have k2 := HD.out.c2; have hcc := (KC.of_below HB5.out).cell hcc; clear hb5)
                go_ret2
                exact ⟨by first | (rw [HF.out]; done) | (rw [HF.out]; rfl), HD.out.below⟩
              have d8 : ((row.length : Int) != (k : Int)) = false := by simp; omega
              have d8' : (row.length != k) = false := by simp; omega
              have HRL := Lib.hid hrl
              have hrkl : (k : Int) ≤ (row.length : Int) := by omega
              clear hrl
              go_wp2_with (go_at_call 66; (refine HK.out.mono ?_); rintro e w5 ⟨rfl, hb5⟩; rw [HNB.out]; have HB5 := Lib.hid (HKD.out.trans (hb5.mono HKD.out.size)); have HD := Lib.hid (HD.out.step HB5.out); have k2 := HD.out.c2; have hcc := (KC.of_below HB5.out).cell hcc; clear hb5)
              obtain ⟨wo, rfl⟩ : ∃ wo, wo = wr := ⟨_, rfl⟩
              go_loopw [9] (fun s wr => ∃ j : Nat, j ≤ k ∧ s = .int .i64 j ∧ firstNZ (fun i => listErr P (P.cj k i) ((i : Int) + 1)) j = 0 ∧ Below wo.heap.size wo wr) (fun s _ => k - (intOf s).toNat)
              case atStart => exact ⟨0, Nat.zero_le _, rfl, rfl, HB5.out⟩
              case round =>
                obtain ⟨j, hj, rfl, hzj, hbq⟩ := hrel
                have HZJ := Lib.hid hzj
                have HBQ := Lib.hid hbq
                have hDq := Lib.hid (HD'.out.step hbq)
                clear hzj hbq
                have k2q := hDq.out.c2
                have hccq := (KC.of_below HBQ.out).cell hcc0.out
                clear k0 k1 k2 hcc hcp
                by_cases hjl : j < k
                · have hj0 : (0 : Int) ≤ (j : Int) := Int.natCast_nonneg _
                  have hjk : (j : Int) < (k : Int) := by omega
                  have hjr : (j : Int) < (row.length : Int) := by omega
                  obtain ⟨b3, o3, A5, c5, rfl, hcj, hIj⟩ := row_cell' (kept_tab.below HTC.out HBQ.out) (i := j) (by rw [HRL.out]; exact hjl)
                  have hI0 := HI0.out.below HBQ.out
                  have hle : listErr P (P.cj k j) ((j : Int) + 1) = if (row.getD j []).length = P.orders.length then (if normalB P.orders (row.getD j []) ((j : Int) + 1) then 0 else 2) else 3 := by rw [HCJ.out]; rfl
                  have hgn : listErr P (P.cj k j) ((j : Int) + 1) ≠ 0 → genErr P k = listErr P (P.cj k j) ((j : Int) + 1) := fun hne => by
                    rw [HGE.out, if_pos HLL.out, if_pos HRL.out, firstNZ_hit (f := fun i => listErr P (P.cj k i) ((i : Int) + 1)) HZJ.out hne k hjl]
                  have HLE := Lib.hid hle
                  have HGN := Lib.hid hgn
                  have HIJ := Lib.hid hIj
                  have HI0' := Lib.hid hI0
                  clear hle hgn hIj hI0
                  generalize hrj : row.getD j [] = rj at *
                  have HRJ := Lib.hid hrj
                  clear hrj
                  by_cases hjn : rj.length = P.orders.length
                  case neg =>
                    have d9 : ((rj.length : Int) != (P.orders.length : Int)) = true := by simp; omega
                    have d9' : (rj.length != P.orders.length) = true := by simp; omega
                    have hg : listErr P (P.cj k j) ((j : Int) + 1) = 3 := by rw [HLE.out, if_neg hjn]
                    have hg2 := HGN.out (by rw [hg]; decide)
                    have hf := HFIN.out (by rw [hg2, hg]; decide)
                    rw [hg2, hg] at hf
                    have HF := Lib.hid hf
                    clear hg hg2 hf hjn
                    go_wp2_with fail
                    go_ret2
                    exact ⟨by first | (rw [HF.out]; done) | (rw [HF.out]; rfl), hDq.out.below⟩
                  have d9 : ((rj.length : Int) != (P.orders.length : Int)) = false := by simp; omega
                  have d9' : (rj.length != P.orders.length) = false := by simp; omega
                  have HJN := Lib.hid hjn
                  clear hjn
                  have kq0 := hDq.out.c0
                  have kq1 := hDq.out.c1
                  go_wp2_with fail
                  go_still_tail 11, (by kernel_rfl)
                  change wpList _ _ _ _ _ wr.drew
                  obtain ⟨wd, hwd⟩ : ∃ wd, wd = wr.drew := ⟨_, rfl⟩
                  have hkd : Below wr.heap.size wr wd := by rw [hwd]; exact (Below.refl _ _).drew
                  rw [← hwd]
                  clear hwd
                  have HK := Lib.hid (normalRef_any wd _ (.slice (some ⟨b1, o1, none⟩) P.powers.length c1) (.slice (some ⟨b2, o2, none⟩) P.conj.length c2) _ P.orders rj ((j : Int) + 1) (HI0'.out.below hkd) (HIJ.out.below hkd) (by rw [HJN.out]; exact Nat.le_refl _))
                  have HKD := Lib.hid hkd
                  clear hkd
                  by_cases hnb : normalB P.orders rj ((j : Int) + 1) = true
                  case neg =>
                    have hnb' : normalB P.orders rj ((j : Int) + 1) = false := by simpa using hnb
                    have hg : listErr P (P.cj k j) ((j : Int) + 1) = 2 := by rw [HLE.out, if_pos HJN.out, if_neg hnb]
                    have hg2 := HGN.out (by rw [hg]; decide)
                    have hf := HFIN.out (by rw [hg2, hg]; decide)
                    rw [hg2, hg] at hf
                    have HF := Lib.hid hf
                    have HNB := Lib.hid hnb'
                    clear hg hg2 hf hnb hnb'
                    go_wp2_with (go_at_call 66; (refine HK.out.mono ?_); rintro e w6 ⟨rfl, hb6⟩; rw [HNB.out]; have HB6 := Lib.hid (HKD.out.trans (hb6.mono HKD.out.size)); clear hb6)
                    go_ret2
                    exact ⟨by first | (rw [HF.out]; done) | (rw [HF.out]; rfl), (hDq.out.step HB6.out).below⟩
                  have hg : listErr P (P.cj k j) ((j : Int) + 1) = 0 := by rw [HLE.out, if_pos HJN.out, if_pos hnb]
                  have HG := Lib.hid hg
                  have HNB := Lib.hid hnb
                  clear hg hnb
                  go_wp2_with (go_at_call 66; (refine HK.out.mono ?_); rintro e w6 ⟨rfl, hb6⟩; rw [HNB.out]; have HB6 := Lib.hid (HKD.out.trans (hb6.mono HKD.out.size)); clear hb6)
                  go_roundw
                  case rel => exact ⟨j + 1, by omega, by go_num, firstNZ_step HZJ.out HG.out, HBQ.out.trans (HB6.out.mono HBQ.out.size)⟩
                  case measure => simp [intOf]; omega
                · obtain rfl : j = k := by omega
                  go_wp2_with fail
                  go_roundw
                  case rel => exact ⟨j + 1, by omega, by go_num, firstP_step HZ4.out (by rw [HGE.out, if_pos HLL.out, if_pos HRL.out, HZJ.out]), hDq.out⟩
                  case measure => simp [intOf]; omega
            · obtain rfl : k = P.orders.length := by omega
              go_wp2_with fail
              go_ret2
              have hfin : checkD P = (0, 0) := by unfold checkD orElse; rw [if_pos HL0.out, HZ1.out, if_pos rfl, if_pos HZ3.out]; exact HZ4.out
              exact ⟨by first | (rw [hfin]; done) | (rw [hfin]; rfl), HD.out.below⟩
end Go.Proofs
