/- Relations: words for the relators in memory; the contract of the literal in collect.Relations; The literal in collect.Relations. -/
import Derived.Test.YtnhoiompdjabbaaA4
import Derived.Test.YtnhoiompdjabbaaA10
import Derived.Test.YtnhoiompdjabbaaA9
namespace Go.Proofs.Pc
theorem backTo_step (y : V) {n i : Nat} (hi : i < n) : backTo y n (n - i) = backTo y n (n - (i + 1)) ++ List.replicate (y.getD i 0).toNat (-(i : Int) - 1) := by
  have e : n - i = (n - (i + 1)) + 1 := by omega
  rw [e]
  show backTo y n (n - (i + 1)) ++ List.replicate (y.getD (n - 1 - (n - (i + 1))) 0).toNat (-((n - 1 - (n - (i + 1)) : Nat) : Int) - 1) = _
  have e2 : n - 1 - (n - (i + 1)) = i := by omega
  rw [e2]
theorem backTo_fits (y : V) (n : Nat) (hn : n ≤ 12) : ∀ t, t ≤ n → ∀ x ∈ backTo y n t, -12 ≤ x ∧ x ≤ 12
  | 0, _ => fun x hx => by cases hx
  | t + 1, ht => fun x hx => by
    have hx' : x ∈ backTo y n t ++ List.replicate (y.getD (n - 1 - t) 0).toNat (-((n - 1 - t : Nat) : Int) - 1) := hx
    rcases List.mem_append.1 hx' with h | h
    · exact backTo_fits y n hn t (by omega) x h
    · have := (List.mem_replicate.1 h).2
      omega
end Go.Proofs.Pc
namespace Go.Proofs
open Go.RowKit Go.Proofs.Pc

theorem owns_block {w : World} {base e n : Nat} {v : Value} {xs : List Value} (h : w.ownsRow base e 1 v n xs) : ∀ r, v.ownBlock = some r → base ≤ r ∧ ∃ C, w.heap[r]? = some (.cells C e (0, 0)) := fun r hr => by
  rcases h.2 with ⟨rfl, -⟩ | ⟨g, cap, cur, rfl, hb, hg, -⟩
  · cases hr
  · have : g = r := Option.some.inj hr
    subst this
    exact ⟨hb, cur, hg⟩
theorem owns_keep {w w' : World} {base e size n : Nat} {v : Value} {xs : List Value} (h : w.ownsRow base e size v n xs) (hb : ∀ r, v.ownBlock = some r → w'.heap[r]? = w.heap[r]?) : w'.ownsRow base e size v n xs := by
  obtain ⟨h1, h2⟩ := h
  refine ⟨h1, ?_⟩
  rcases h2 with h2 | ⟨g, cap, cur, a, b, hg, r⟩
  · exact .inl h2
  · exact .inr ⟨g, cap, cur, a, b, (hb g (by rw [a]; rfl)).trans hg, r⟩
theorem owns_form {w : World} {base e n : Nat} {v : Value} {xs : List Value} (h : w.ownsRow base e 1 v n xs) : ∃ A c, v = .slice A n c := by
  rcases h.2 with ⟨rfl, rfl⟩ | ⟨g, cap, cur, rfl, -⟩
  · exact ⟨none, 0, rfl⟩
  · exact ⟨_, _, rfl⟩

/-- u reads as x by blocks of numbers in [lo, hi) -/
def IntsX (lo hi : Nat) (w : World) (u : Value) (x : List Int) : Prop :=
  ∀ w' : World, (∀ (k : Nat) (C : Array Value) (fr : Nat × Nat), lo ≤ k → k < hi → w.heap[k]? = some (Obj.cells C 3 fr) → w'.heap[k]? = some (Obj.cells C 3 fr)) → IntsAt w' u x
theorem IntsX.at_ {lo hi : Nat} {w : World} {u : Value} {x : List Int} (h : IntsX lo hi w u x) : IntsAt w u x := h w fun _ _ _ _ _ h => h
theorem IntsX.keep {lo hi hi' : Nat} {w w' : World} {u : Value} {x : List Int} (h : IntsX lo hi w u x) (hh : hi ≤ hi') (hk : ∀ (k : Nat) (C : Array Value) (fr : Nat × Nat), lo ≤ k → k < hi → w.heap[k]? = some (Obj.cells C 3 fr) → w'.heap[k]? = some (Obj.cells C 3 fr)) : IntsX lo hi' w' u x :=
  fun w'' hw => h w'' fun k C fr h1 h2 h3 => hw k C fr h1 (by omega) (hk k C fr h1 h2 h3)
theorem IntsX.of_owns {lo : Nat} {w : World} {v : Value} {n : Nat} {x : List Int} (h : w.ownsRow lo 3 1 v n (ints x)) (hf : Fits x) : IntsX lo w.heap.size w v x := fun w' hw => by
  refine ⟨?_, hf⟩
  refine sl_of_owns (e := 3) (base := lo) (n := n) (owns_keep h fun r hr => ?_)
  obtain ⟨h1, C, h2⟩ := owns_block h r hr
  rw [h2]
  exact hw r C _ h1 (Array.getElem?_eq_some_iff.1 h2).1 h2

/-- box O holds n and a row of the words rs, all of it in blocks from lo on, the words below hi; below lo only L and O have turned since w0 -/
structure RelSt (lo hi : Nat) (w0 w : World) (L O : Nat) (n : Int) (rs : List (List Int)) : Prop where
  os : w.os = w0.os
  tape : w.tape = w0.tape
  output : w.output = w0.output
  lh : lo ≤ hi
  hs : hi ≤ w.heap.size
  old : ∀ k, k < lo → k ≠ L → k ≠ O → w.heap[k]? = w0.heap[k]?
  out : ∃ A c vals, w.heap[O]? = some (.cells #[.int .i64 n, .slice A rs.length c] 46 (0, 0)) ∧ w.ownsRow lo 50 1 (.slice A rs.length c) rs.length vals ∧ (∀ r, (Value.slice A rs.length c).ownBlock = some r → r < hi) ∧
    ∀ j, j < rs.length → ∃ u, vals[j]? = some u ∧ IntsX lo hi w u (rs.getD j [])
theorem RelSt.drewN {lo hi : Nat} {w0 w : World} {L O : Nat} {n : Int} {rs : List (List Int)} (h : RelSt lo hi w0 w L O n rs) (k : Nat) : RelSt lo hi w0 (w.drewN k) L O n rs :=
  ⟨h.os, h.tape, h.output, h.lh, h.hs, h.old, h.out⟩
theorem RelSt.below {lo hi : Nat} {w0 w w' : World} {L O : Nat} {n : Int} {rs : List (List Int)} (h : RelSt lo hi w0 w L O n rs) (hO : O < lo) (hb : Below hi w w') : RelSt lo hi w0 w' L O n rs := by
  have h1 := h.lh
  have h2 := h.hs
  obtain ⟨A, c, vals, ho, hw, hr, hv⟩ := h.out
  refine ⟨hb.os.trans h.os, hb.tape.trans h.tape, hb.output.trans h.output, h1, Nat.le_trans h2 hb.size, fun k hk hL hO => (hb.block k (by omega)).trans (h.old k hk hL hO), A, c, vals, (hb.block O (by omega)).trans ho, owns_keep hw fun r hr' => hb.block r (hr r hr'), hr, fun j hj => ?_⟩
  obtain ⟨u, hu, hx⟩ := hv j hj
  exact ⟨u, hu, hx.keep (Nat.le_refl _) fun k C fr _ hk hc => (hb.block k hk).trans hc⟩
/-- another low block, L, is written -/
theorem RelSt.setL {lo hi : Nat} {w0 w : World} {L O : Nat} {n : Int} {rs : List (List Int)} (h : RelSt lo hi w0 w L O n rs) (hL : L < lo) (hLO : L ≠ O) (j : Nat) (v : Value) : RelSt lo hi w0 (w.setCell ⟨L, j, none⟩ v) L O n rs := by
  have hk : ∀ k, k ≠ L → (w.setCell ⟨L, j, none⟩ v).heap[k]? = w.heap[k]? := fun k hk => Below.heap_setCell w ⟨L, j, none⟩ v k hk
  obtain ⟨A, c, vals, ho, hw, hr, hv⟩ := h.out
  refine ⟨h.os, h.tape, h.output, h.lh, by have := h.hs; simpa [World.setCell] using this, fun k hk' hL hO => (hk k hL).trans (h.old k hk' hL hO), A, c, vals, (hk O (Ne.symm hLO)).trans ho, owns_keep hw fun r hr' => hk r (by have := (owns_block hw r hr').1; omega), hr, fun j' hj => ?_⟩
  obtain ⟨u, hu, hx⟩ := hv j' hj
  exact ⟨u, hu, hx.keep (Nat.le_refl _) fun k C fr hk0 hk1 hc => (hk k (by omega)).trans hc⟩
/-- a word is appended, and the row stored into the box -/
theorem RelSt.next {lo hi : Nat} {w0 w w' : World} {L O : Nat} {n : Int} {rs : List (List Int)} {A A' : Option Addr} {c c' m : Nat} {vals : List Value} {u : Value} {x : List Int}
    (h : RelSt lo hi w0 w L O n rs) (hO : O < lo) (hrow : w.ownsRow lo 50 1 (.slice A rs.length c) rs.length vals)
    (hv : ∀ j, j < rs.length → ∃ u, vals[j]? = some u ∧ IntsX lo hi w u (rs.getD j []))
    (hou : ∃ v1, w.heap[O]? = some (.cells #[.int .i64 n, v1] 46 (0, 0)))
    (hu : w.ownsRow lo 3 1 u m (ints x)) (hf : Fits x) (hg : w.grownBy w' (Value.slice A rs.length c).ownBlock) (hown : w'.ownsRow lo 50 1 (.slice A' (rs.length + 1) c') (rs.length + 1) (vals ++ [u])) :
    RelSt lo w'.heap.size w0 (w'.setCell ⟨O, 1, none⟩ (.slice A' (rs.length + 1) c')) L O n (rs ++ [x]) := by
  have h1 := h.lh
  have h2 := h.hs
  have hlen : (rs ++ [x]).length = rs.length + 1 := by simp
  have hrowb := owns_block hrow
  have hk : ∀ k, k ≠ O → (w'.setCell ⟨O, 1, none⟩ (.slice A' (rs.length + 1) c')).heap[k]? = w'.heap[k]? := fun k hk => Below.heap_setCell w' ⟨O, 1, none⟩ _ k hk
  have hg3 : ∀ (k : Nat) (C : Array Value) (fr : Nat × Nat), w.heap[k]? = some (Obj.cells C 3 fr) → w'.heap[k]? = some (Obj.cells C 3 fr) := fun k C fr hc => by
    refine (hg.block k (Array.getElem?_eq_some_iff.1 hc).1 fun e => ?_).trans hc
    obtain ⟨-, C', hC'⟩ := hrowb k e.symm
    rw [hc] at hC'; cases hC'
  have hlow : ∀ k, k < lo → w'.heap[k]? = w.heap[k]? := fun k hk => hg.block k (by omega) fun e => by have := (hrowb k e.symm).1; omega
  obtain ⟨v1, hO1⟩ := hou
  refine ⟨hg.os.trans h.os, hg.tape.trans h.tape, hg.output.trans h.output, Nat.le_trans (Nat.le_trans h1 h2) hg.size, by simp [World.setCell], fun k hk' hL hO' => (hk k hO').trans ((hlow k hk').trans (h.old k hk' hL hO')), A', c', vals ++ [u], ?_, ?_, ?_, ?_⟩
  · rw [hlen]
    have := (hlow O hO).trans hO1
    simp [World.setCell, Array.getElem?_modify, this]
  · rw [hlen]
    exact owns_keep hown fun r hr => hk r (by have := (owns_block hown r hr).1; omega)
  · rw [hlen]
    intro r hr
    obtain ⟨-, C, hC⟩ := owns_block hown r hr
    exact (Array.getElem?_eq_some_iff.1 hC).1
  · have hvl : vals.length = rs.length := by simpa using hrow.1
    intro j hj
    rw [hlen] at hj
    rcases Nat.lt_or_ge j rs.length with hjl | hjl
    · obtain ⟨u', h3, h4⟩ := hv j hjl
      refine ⟨u', by rw [List.getElem?_append_left (by omega)]; exact h3, ?_⟩
      have e : (rs ++ [x]).getD j [] = rs.getD j [] := by simp [List.getD_eq_getElem?_getD, List.getElem?_append_left hjl]
      rw [e]
      refine h4.keep (Nat.le_trans h2 hg.size) fun k C fr hk0 _ hc => ?_
      rw [hk k (by omega)]; exact hg3 k C fr hc
    · obtain rfl : j = rs.length := by omega
      refine ⟨u, by rw [List.getElem?_append_right (by omega), hvl, Nat.sub_self]; rfl, ?_⟩
      have e : (rs ++ [x]).getD rs.length [] = x := by simp [List.getD_eq_getElem?_getD]
      rw [e]
      refine (IntsX.of_owns hu hf).keep hg.size fun k C fr hk0 _ hc => ?_
      rw [hk k (by omega)]; exact hg3 k C fr hc
end Go.Proofs
namespace Go.Proofs
open Go.RowKit Go.Proofs.Pc

theorem info44w : (Try.prog.info? 50).map (fun i => (i.zero, i.size, i.bytes)) = some (some (.slice none 0 0), 1, 24) := by kernel_rfl
theorem info50p : ∃ i, Try.prog.info? 50 = some i ∧ i.zero = some (.slice none 0 0) ∧ i.size = 1 ∧ i.bytes = 24 := by
  have h := info44w
  cases hq : Try.prog.info? 50 with
  | none => simp [hq] at h
  | some i => simp [hq] at h; exact ⟨i, rfl, h⟩
theorem ints_app (a b : List Int) : ints (a ++ b) = ints a ++ ints b := by simp [ints]
theorem ints_rep (x : Int) (c : Nat) : ints (List.replicate c x) = List.replicate c (Value.int .i64 x) := by simp [ints]
theorem rp_full (x : Int) (c : Nat) : rp x c c = List.replicate c (Value.int .i64 x) := by simp [rp]

theorem owns_base {w : World} {base base' e size n : Nat} {v : Value} {xs : List Value} (h : w.ownsRow base e size v n xs) (hb : base' ≤ base) : w.ownsRow base' e size v n xs := by
  obtain ⟨h1, h2⟩ := h
  refine ⟨h1, ?_⟩
  rcases h2 with h2 | ⟨g, cap, cur, a, b, r⟩
  · exact .inl h2
  · exact .inr ⟨g, cap, cur, a, by omega, r⟩

set_option maxRecDepth 100000 in
set_option maxHeartbeats 1000000 in
theorem add_any {w0 W : World} {lo B L O pr br : Nat} {n : Nat} {rs : List (List Int)} {v : Value} {xs y : List Int}
    (hS : RelSt lo B w0 W L O n rs) (hL : W.heap[L]? = some (.cells #[.int .i64 (tot rs)] 3 (0, 0))) (hLl : L < lo) (hOl : O < lo) (hLO : L ≠ O)
    (hr : W.cell? ⟨pr, 0, none⟩ = some (.pointer (some ⟨br, 0, none⟩))) (hrl : pr < lo) (hn : W.cell? ⟨br, 0, none⟩ = some (.int .i64 n)) (hbl : br < lo)
    (hv : W.ownsRow B 3 1 v xs.length (ints xs)) (hf : Fits xs) (hy : ∀ k, k < n → 0 ≤ y.getD k 0 ∧ y.getD k 0 ≤ 1000) (hn12 : n ≤ 12) (hxl : xs.length ≤ 1000) (hrl1 : rs.length ≤ 1000) (hrt : tot rs ≤ 1000000000) :
    Calls Try.prog 65 #[v, .agg (vec y).toArray, .pointer (some ⟨pr, 0, none⟩), .pointer (some ⟨L, 0, none⟩), .pointer (some ⟨O, 0, none⟩)] W fun e w' => e = .returned (.tuple #[]) ∧
      RelSt lo w'.heap.size w0 w' L O n (rs ++ [xs ++ back y n]) ∧ w'.heap[L]? = some (.cells #[.int .i64 (tot (rs ++ [xs ++ back y n]))] 3 (0, 0)) := by
  have hBW := hS.hs
  have hlB := hS.lh
  obtain ⟨A0, c0, rfl⟩ := owns_form hv
  have hb0 : Below B W (W.alloc (.cells (vec y).toArray 82)) := (Below.refl _ _).alloc hBW _
  have hv0 : (W.alloc (.cells (vec y).toArray 82)).ownsRow B 3 1 (.slice A0 xs.length c0) xs.length (ints xs) := owns_below hv ((Below.refl _ _).alloc (Nat.le_refl _) _)
  have hvec := heap_alloc_new W (.cells (vec y).toArray 82)
  have hst := store_vec_new W y
  have hrr : (W.alloc (.cells (vec y).toArray 82)).cell? ⟨pr, 0, none⟩ = some (.pointer (some ⟨br, 0, none⟩)) := (hb0.cell (p := ⟨pr, 0, none⟩) (by show pr < B; omega)).trans hr
  have hnn : (W.alloc (.cells (vec y).toArray 82)).cell? ⟨br, 0, none⟩ = some (.int .i64 n) := (hb0.cell (p := ⟨br, 0, none⟩) (by show br < B; omega)).trans hn
  have HS := Lib.hid hS
  have HL := Lib.hid hL
  have HF := Lib.hid hf
  have HY := Lib.hid hy
  have HV := Lib.hid hvec
  have HB := Lib.hid hb0
  have HW := Lib.hid hv0
  have hr0 := hr
  have hn0 := hn
  clear hS hL hf hy hvec hb0 hv hv0 hr hn
  go_enter Try.func65, Try.ntmps65
  go_wp2_with fail
  generalize W.alloc (.cells (vec y).toArray 82) = W1 at *
  go_loopw [0, 7] (fun s0 s7 wr => ∃ j A c, j ≤ n ∧ s0 = .slice A (xs ++ backTo y n (n - j)).length c ∧ s7 = .int .i64 ((j : Int) - 1) ∧
      wr.ownsRow B 3 1 (.slice A (xs ++ backTo y n (n - j)).length c) (xs ++ backTo y n (n - j)).length (ints (xs ++ backTo y n (n - j))) ∧ Below B W wr ∧ wr.heap[W.heap.size]? = some (.cells (vec y).toArray 82 (0, 0))) (fun _ s7 _ => (intOf s7 + 1).toNat)
  case atStart =>
    have e : backTo y n (n - n) = [] := by rw [Nat.sub_self]; rfl
    refine ⟨n, A0, c0, Nat.le_refl _, ?_, ?_, ?_, HB.out, HV.out⟩
    · rw [e, List.append_nil]
    · go_num
    · rw [e, List.append_nil]; exact HW.out
  case round =>
    obtain ⟨j, A, c, hj, rfl, rfl, hown, hbel, hvec⟩ := hrel
    have HO := Lib.hid hown
    have HBl := Lib.hid hbel
    have hrj : wr.cell? ⟨pr, 0, none⟩ = some (.pointer (some ⟨br, 0, none⟩)) := (hbel.cell (p := ⟨pr, 0, none⟩) (by show pr < B; omega)).trans hr0
    have hnj : wr.cell? ⟨br, 0, none⟩ = some (.int .i64 n) := (hbel.cell (p := ⟨br, 0, none⟩) (by show br < B; omega)).trans hn0
    have HVj := Lib.hid hvec
    clear hown hbel
    rcases j with _ | i
    · have d0 : ((0 : Nat) : Int) - 1 = -1 := by omega
      simp only [d0]
      have hzl : (xs ++ backTo y n (n - 0)).length ≤ 13000 := by
        have := backTo_len y n HY.out (n - 0) (by omega)
        rw [List.length_append]; omega
      have hzf : Fits (xs ++ backTo y n (n - 0)) := fun x hx => by
        rcases List.mem_append.1 hx with h | h
        · exact HF.out x h
        · have := backTo_fits y n hn12 (n - 0) (by omega) x h
          omega
      have hzb : xs ++ backTo y n (n - 0) = xs ++ back y n := rfl
      have HZB := Lib.hid hzb
      have HZF := Lib.hid hzf
      clear hzb hzf
      generalize xs ++ backTo y n (n - 0) = Z at *
      have hLj : wr.heap[L]? = some (.cells #[.int .i64 (tot rs)] 3 (0, 0)) := (HBl.out.block L (by omega)).trans HL.out
      have hcL : wr.cell? ⟨L, 0, none⟩ = some (.int .i64 (tot rs)) := by rw [cell_of_row _ _ _ _ _ _ hLj]; rfl
      have hfL : wr.frozen? ⟨L, 0, none⟩ = false := by simp [World.frozen?, hLj]
      have hSj := (HS.out.below hOl HBl.out).setL hLl hLO 0 (.int .i64 (tot rs + (Z.length : Int)))
      have htn := tot_nonneg rs
      have hz0 : (0 : Int) ≤ (Z.length : Int) := Int.natCast_nonneg _
      have hz1 : (Z.length : Int) ≤ 13000 := by omega
      have HSJ := Lib.hid hSj
      have HLJ := Lib.hid hLj
      obtain ⟨A1, c1, vals, hoj, hrow, hrb, hvs⟩ := hSj.out
      have hcO : (wr.setCell ⟨L, 0, none⟩ (.int .i64 (tot rs + (Z.length : Int)))).cell? ⟨O, 1, none⟩ = some (.slice A1 rs.length c1) := by rw [cell_of_row _ _ _ _ _ _ hoj]; rfl
      have HOJ := Lib.hid hoj
      have HRW := Lib.hid hrow
      have HVS := Lib.hid hvs
      clear hSj hLj hoj hrow hvs
      have hsl : (wr.setCell ⟨L, 0, none⟩ (.int .i64 (tot rs + (Z.length : Int)))).heap.size = wr.heap.size := by simp [World.setCell]
      have hb5 : ∀ o, Below wr.heap.size (wr.setCell ⟨L, 0, none⟩ (.int .i64 (tot rs + (Z.length : Int)))) ((wr.setCell ⟨L, 0, none⟩ (.int .i64 (tot rs + (Z.length : Int)))).alloc o) := fun o => (Below.refl _ _).alloc (by omega) _
      have hn5 : ∀ j u, [Value.slice A Z.length c][j]? = some u → ((wr.setCell ⟨L, 0, none⟩ (.int .i64 (tot rs + (Z.length : Int)))).alloc (.cells #[Value.slice A Z.length c] 50)).cell? ((⟨wr.heap.size, 0, none⟩ : Addr).add j) = some u := by
        have := cell_one_new (wr.setCell ⟨L, 0, none⟩ (.int .i64 (tot rs + (Z.length : Int)))) (Value.slice A Z.length c) 50
        rw [hsl] at this; exact this
      have hBs : B ≤ wr.heap.size := Nat.le_trans hBW HBl.out.size
      have hrw5 : ((wr.setCell ⟨L, 0, none⟩ (.int .i64 (tot rs + (Z.length : Int)))).alloc (.cells #[Value.slice A Z.length c] 50)).ownsRow lo 50 1 (.slice A1 rs.length c1) rs.length vals := owns_keep HRW.out fun r hr => (hb5 _).block r (by have := hrb r hr; omega)
      have hs5 : RelSt lo B w0 ((wr.setCell ⟨L, 0, none⟩ (.int .i64 (tot rs + (Z.length : Int)))).alloc (.cells #[Value.slice A Z.length c] 50)) L O n rs := HSJ.out.below hOl ((hb5 _).mono hBs)
      have ho5 := ((hb5 (.cells #[Value.slice A Z.length c] 50)).block O (by omega)).trans HOJ.out
      have hw5 : ((wr.setCell ⟨L, 0, none⟩ (.int .i64 (tot rs + (Z.length : Int)))).alloc (.cells #[Value.slice A Z.length c] 50)).ownsRow lo 3 1 (.slice A Z.length c) Z.length (ints Z) := owns_base (owns_keep HO.out fun r hr => by
        obtain ⟨h1, C, h2⟩ := owns_block HO.out r hr
        rw [(hb5 _).block r (Array.getElem?_eq_some_iff.1 h2).1]
        exact Below.heap_setCell wr ⟨L, 0, none⟩ _ r (by show r ≠ L; omega)) hlB
      have hl5 : ((wr.setCell ⟨L, 0, none⟩ (.int .i64 (tot rs + (Z.length : Int)))).alloc (.cells #[Value.slice A Z.length c] 50)).heap[L]? = some (.cells #[.int .i64 (tot rs + (Z.length : Int))] 3 (0, 0)) := by
        rw [(hb5 _).block L (by omega)]
        simp [World.setCell, Array.getElem?_modify, HLJ.out]
      have hv5 : ∀ j, j < rs.length → ∃ u, vals[j]? = some u ∧ IntsX lo B ((wr.setCell ⟨L, 0, none⟩ (.int .i64 (tot rs + (Z.length : Int)))).alloc (.cells #[Value.slice A Z.length c] 50)) u (rs.getD j []) := fun j hj => by
        obtain ⟨u, hu, hx⟩ := HVS.out j hj
        exact ⟨u, hu, hx.keep (Nat.le_refl _) fun k C fr _ hk hc => ((hb5 _).block k (by omega)).trans hc⟩
      have HN5 := Lib.hid hn5
      have HRW5 := Lib.hid hrw5
      have HS5 := Lib.hid hs5
      have HO5 := Lib.hid ho5
      have HW5 := Lib.hid hw5
      have HL5 := Lib.hid hl5
      have HV5 := Lib.hid hv5
      have HZ5 : Hid (lo ≤ ((wr.setCell ⟨L, 0, none⟩ (.int .i64 (tot rs + (Z.length : Int)))).alloc (.cells #[Value.slice A Z.length c] 50)).heap.size) := Lib.hid (by have := hs5.hs; omega)
      clear hn5 hrw5 hs5 ho5 hw5 hl5 hb5 hv5 hsl hrb
      obtain ⟨i50, hi50, hz50, hs50, hb50⟩ := info50p
      have HT := Lib.hid (rfl : tot rs = tot rs)
      generalize hTe : tot rs = T at *
      have HTE := Lib.hid hTe
      clear hTe
      go_wp2_with (first
        | (at_builtin
           refine wpList_append_own_at _ rfl (.tmp 32) (.tmp 34) 44 (by rfl) lo 50 i50 (.slice none 0 0) 1 24 Try.underlying44 hi50 hz50 hs50 hb50 rfl (by omega) _ _ _ rfl HRW5.out _ 1 1 [.slice A Z.length c] rfl rfl HN5.out (fun u hu => by simp at hu; rw [hu]; rfl) ?_ ?_ HZ5.out ?_
           rotate_left 2
           intro v' w6 hown6 hgrow hnil hat
           obtain ⟨A6, c6, rfl⟩ := owns_form hown6
           have hO6 : w6.heap[O]? = some (.cells #[.int .i64 n, .slice A1 rs.length c1] 46 (0, 0)) := (hgrow.block O (Array.getElem?_eq_some_iff.1 HO5.out).1 fun e => by have := (owns_block HRW5.out O e.symm).1; omega).trans HO5.out
           have hc6 : w6.cell? ⟨O, 1, none⟩ = some (.slice A1 rs.length c1) := by rw [cell_of_row _ _ _ _ _ _ hO6]; rfl
           have hf6 : w6.frozen? ⟨O, 1, none⟩ = false := by simp [World.frozen?, hO6]
           have HOWN := Lib.hid hown6
           have HG := Lib.hid hgrow
           clear hown6 hgrow hnil hat hO6))
      · go_end0
        have hnx := HS5.out.next hOl HRW5.out HV5.out ⟨_, HO5.out⟩ HW5.out HZF.out HG.out HOWN.out
        refine ⟨rfl, ?_, ?_⟩
        · rw [← HZB.out]
          simpa [World.setCell] using hnx
        · rw [← HZB.out, tot_snoc, HTE.out, Below.heap_setCell w6 ⟨O, 1, none⟩ _ L hLO]
          exact (HG.out.block L (Array.getElem?_eq_some_iff.1 HL5.out).1 fun e => by have := (owns_block HRW5.out L e.symm).1; omega).trans HL5.out
      · unfold maxLen; omega
      · omega
    · have d0 : ((i + 1 : Nat) : Int) - 1 = (i : Int) := by omega
      simp only [d0]
      have hi0 : (0 : Int) ≤ (i : Int) := Int.natCast_nonneg _
      have hi12 : (i : Int) < 12 := by omega
      obtain ⟨q, hq⟩ : ∃ q : Nat, y.getD i 0 = (q : Int) := ⟨(y.getD i 0).toNat, by have := (HY.out i (by omega)).1; omega⟩
      have hq1 : q ≤ 1000 := by have := (HY.out i (by omega)).2; omega
      have hWlt : W.heap.size < wr.heap.size := (Array.getElem?_eq_some_iff.1 hvec).1
      have hcv : (wr.alloc (.cells #[.int .i64 (-(i : Int) - 1)] 3)).cell? ⟨W.heap.size, i, none⟩ = some (.int .i64 (q : Int)) := by
        rw [cell_of_row _ _ _ _ _ _ ((((Below.refl _ wr).alloc (Nat.le_refl _) _).block _ hWlt).trans hvec), List.getElem?_toArray, getElem?_vec _ (by omega), hq]
      have hcx : (wr.alloc (.cells #[.int .i64 (-(i : Int) - 1)] 3)).cell? ⟨wr.heap.size, 0, none⟩ = some (.int .i64 (-(i : Int) - 1)) := by
        rw [cell_of_row _ _ _ _ _ _ (heap_alloc_new wr _)]; rfl
      have HREP := Lib.hid (repeat_any _ wr.heap.size 0 1 (-(i : Int) - 1) q hq1 hcx)
      have hbw1 : Below wr.heap.size wr (wr.alloc (.cells #[.int .i64 (-(i : Int) - 1)] 3)) := (Below.refl _ _).alloc (Nat.le_refl _) _
      have HBW1 := Lib.hid hbw1
      have HQ := Lib.hid hq
      have hsz1 : (wr.alloc (.cells #[.int .i64 (-(i : Int) - 1)] 3)).heap.size = wr.heap.size + 1 := by simp
      clear hbw1 hcx hq hvec
      obtain ⟨i3, hi3, hz3, hs3, hb3⟩ := info3p
      have hBs : B ≤ wr.heap.size := Nat.le_trans hBW HBl.out.size
      have hbt := backTo_step y (n := n) (i := i) (by omega)
      have hzl : (xs ++ backTo y n (n - (i + 1))).length ≤ 13000 := by
        have := backTo_len y n HY.out (n - (i + 1)) (by omega)
        rw [List.length_append]; omega
      have HBT := Lib.hid hbt
      clear hbt
      generalize hZ : xs ++ backTo y n (n - (i + 1)) = Z at *
      have HZ := Lib.hid hZ
      clear hZ
      go_wp2_with (first
        | (go_at_call 66
           (refine HREP.out.mono ?_)
           rintro e w2 ⟨u, rfl, ⟨g, rfl, hg1, hg2⟩, hb2⟩
           have hbw2 : Below wr.heap.size wr w2 := HBW1.out.trans (hb2.mono (by rw [hsz1]; omega))
           have hnews : ∀ j u, (rp (-(i : Int) - 1) q q)[j]? = some u → w2.cell? ((⟨g, 0, none⟩ : Addr).add j) = some u := World.news_of_block hg2
           have hown2 := owns_below HO.out hbw2
           have HN := Lib.hid hnews
           have HO2 := Lib.hid hown2
           have HB2 := Lib.hid hbw2
           have hWlt2 : wr.heap.size ≤ w2.heap.size := hbw2.size
           clear hnews hown2 hbw2 hg2 hb2)
        | (at_builtin
           refine wpList_append_own_at _ rfl (.tmp 17) (.tmp 25) 50 (by rfl) B 3 i3 (.int .i64 0) 1 8 Try.underlying50 hi3 hz3 hs3 hb3 rfl (by omega) _ _ _ rfl HO2.out _ q q (rp (-(i : Int) - 1) q q) rfl (by rw [length_rp _ (Nat.le_refl _), Nat.mul_one]) HN.out (fun u hu => by rw [rp_full] at hu; rw [(List.mem_replicate.1 hu).2]; rfl) ?_ ?_ ?_ ?_
           rotate_left 3
           intro v' w3 hown3 hgrow hnil hat))
      · obtain ⟨A', c', rfl⟩ := owns_form hown3
        have hW : xs ++ backTo y n (n - i) = Z ++ List.replicate q (-(i : Int) - 1) := by rw [HBT.out, HQ.out, ← HZ.out, List.append_assoc]; rfl
        have hl : (xs ++ backTo y n (n - i)).length = Z.length + q := by rw [hW, List.length_append, List.length_replicate]
        have hown2 := owns_block HO2.out
        have hB3 : Below B W w3 := (HBl.out.trans (HB2.out.mono hBs)).grown hgrow (Nat.le_trans hBW (Nat.le_trans HBl.out.size HB2.out.size)) fun k hk => (hown2 k hk).1
        have hv3 : w3.heap[W.heap.size]? = some (.cells (vec y).toArray 82 (0, 0)) := by
          have h2 : w2.heap[W.heap.size]? = some (.cells (vec y).toArray 82 (0, 0)) := (HB2.out.block _ hWlt).trans HVj.out
          refine (hgrow.block _ (by omega) fun e => ?_).trans h2
          obtain ⟨-, C, hC⟩ := hown2 _ e.symm
          rw [h2] at hC; cases hC
        refine ⟨⟨i, A', c', by omega, by rw [hl], rfl, ?_, hB3, hv3⟩, by simp [intOf]⟩
        rw [hl, hW, ints_app, ints_rep, ← rp_full]
        exact hown3
      · unfold maxLen; omega
      · omega
      · omega
end Go.Proofs
