/- Plain: words are compared; the clean relators of a presentation; word.Cmp: words are compared by their lengths, then letter by letter; word.Cmp: words are compared by their lengths, then letter by letter; Plain: an elimination, a shortening step, what a presentation is simplified to; Schreier systems, plainly: the places of pairs; The letters of representatives; Presentations of subgroups, plainly: which relators, in which order, and when they are too long; Coset enumeration, plainly: states, coincidences, and what they keep. No program in sight; Coset enumeration, plainly: a coincidence keeps the edges, and empties the rows of the dead; Coset enumeration, plainly: the queue of a coincidence, and what stands behind it. -/
import Derived.Test.YtmmbmhjdnlmedaaGreatLoCS2
import Derived.Sort.Grow
namespace Go.Proofs.Tz
open Go.Proofs.Ct (W red inv mulW invW opp foldTo)
def cmpI (x y : Int) : Int := if x < y then -1 else if y < x then 1 else 0
/-- letters by their sizes, the generator ahead of its inverse -/
def key (x : Int) : Int := 2 * (x.natAbs : Int) + (if x < 0 then 1 else 0)
theorem key_inj {x y : Int} (h : key x = key y) : x = y := by
  unfold key at h
  split at h <;> split at h <;> omega
def befI (x y : Int) : Int := if cmpI x.natAbs y.natAbs ≠ 0 then cmpI x.natAbs y.natAbs else cmpI y x
theorem befI_key (x y : Int) : befI x y = cmpI (key x) (key y) := by
  unfold befI cmpI key
  by_cases h1 : x < 0 <;> by_cases h2 : y < 0 <;> simp only [h1, h2, if_true, if_false]
  all_goals
    split <;> (repeat' split at *) <;> omega
def cmpL : W → W → Int
  | [], [] => 0
  | [], _ :: _ => -1
  | _ :: _, [] => 1
  | x :: a, y :: b => if befI x y ≠ 0 then befI x y else cmpL a b
def cmpW (a b : W) : Int := if cmpI (a.length : Int) (b.length : Int) ≠ 0 then cmpI (a.length : Int) (b.length : Int) else cmpL a b
theorem cmpI_zero {x y : Int} : cmpI x y = 0 ↔ x = y := by unfold cmpI; split <;> (try split) <;> omega
theorem cmpI_neg {x y : Int} : cmpI x y < 0 ↔ x < y := by unfold cmpI; split <;> (try split) <;> omega
theorem cmpI_swap (x y : Int) : cmpI y x = -cmpI x y := by unfold cmpI; split <;> split <;> (try split) <;> omega
theorem cmpL_zero : ∀ {a b : W}, cmpL a b = 0 ↔ a = b
  | [], [] => by simp [cmpL]
  | [], _ :: _ => by simp [cmpL]
  | _ :: _, [] => by simp [cmpL]
  | x :: a, y :: b => by
    have ih := cmpL_zero (a := a) (b := b)
    unfold cmpL
    rw [befI_key]
    constructor
    · intro h
      split at h
      · contradiction
      · rename_i h1
        have h2 := key_inj (x := x) (y := y) (cmpI_zero.1 (by omega))
        rw [h2, ih.1 h]
    · intro h
      injection h with h1 h2
      subst h1 h2
      rw [if_neg (by simp [cmpI_zero])]
      exact ih.2 rfl
theorem cmpL_swap : ∀ (a b : W), cmpL b a = -cmpL a b
  | [], [] => rfl
  | [], _ :: _ => rfl
  | _ :: _, [] => rfl
  | x :: a, y :: b => by
    unfold cmpL
    rw [befI_key, befI_key, cmpI_swap (key x) (key y), cmpL_swap a b]
    split <;> split <;> omega
theorem cmpL_trans : ∀ {a b c : W}, cmpL a b < 0 → cmpL b c < 0 → cmpL a c < 0
  | [], [], _, h, _ => by simp [cmpL] at h
  | [], _ :: _, [], _, h => by simp [cmpL] at h
  | [], _ :: _, _ :: _, _, _ => by simp [cmpL]
  | _ :: _, [], _, h, _ => by simp [cmpL] at h
  | _ :: _, _ :: _, [], _, h => by simp [cmpL] at h
  | x :: a, y :: b, z :: c, h1, h2 => by
    have ih := cmpL_trans (a := a) (b := b) (c := c)
    unfold cmpL at h1 h2 ⊢
    rw [befI_key] at h1 h2 ⊢
    have e1 := cmpI_neg (x := key x) (y := key y)
    have e2 := cmpI_neg (x := key y) (y := key z)
    have e3 := cmpI_neg (x := key x) (y := key z)
    have z1 := cmpI_zero (x := key x) (y := key y)
    have z2 := cmpI_zero (x := key y) (y := key z)
    have z3 := cmpI_zero (x := key x) (y := key z)
    split at h1
    · split at h2
      · rw [if_pos (by omega)]; omega
      · rw [if_pos (by omega)]; omega
    · split at h2
      · rw [if_pos (by omega)]; omega
      · rw [if_neg (by omega)]; exact ih h1 h2
theorem cmpW_zero {a b : W} : cmpW a b = 0 ↔ a = b := by
  unfold cmpW
  split
  · rename_i h
    exact ⟨fun e => absurd e h, fun e => absurd (by rw [e]; exact cmpI_zero.2 rfl) h⟩
  · exact cmpL_zero
theorem cmpW_swap (a b : W) : cmpW b a = -cmpW a b := by
  unfold cmpW
  rw [cmpI_swap (a.length : Int), cmpL_swap a b]
  split <;> split <;> omega
theorem cmpW_trans {a b c : W} (h1 : cmpW a b < 0) (h2 : cmpW b c < 0) : cmpW a c < 0 := by
  unfold cmpW at *
  have e1 := cmpI_neg (x := (a.length : Int)) (y := b.length)
  have e2 := cmpI_neg (x := (b.length : Int)) (y := c.length)
  have e3 := cmpI_neg (x := (a.length : Int)) (y := c.length)
  have z1 := cmpI_zero (x := (a.length : Int)) (y := b.length)
  have z2 := cmpI_zero (x := (b.length : Int)) (y := c.length)
  have z3 := cmpI_zero (x := (a.length : Int)) (y := c.length)
  split at h1
  · split at h2
    · rw [if_pos (by omega)]; omega
    · rw [if_pos (by omega)]; omega
  · split at h2
    · rw [if_pos (by omega)]; omega
    · rw [if_neg (by omega)]; exact cmpL_trans h1 h2
/-- strictly ascending -/
def Asc (l : List W) : Prop := l.Pairwise fun a b => cmpW a b < 0
theorem Asc.ext : ∀ {l m : List W}, Asc l → Asc m → (∀ x, x ∈ l ↔ x ∈ m) → l = m
  | [], [], _, _, _ => rfl
  | [], y :: m, _, _, h => absurd ((h y).2 (List.mem_cons_self ..)) List.not_mem_nil
  | x :: l, [], _, _, h => absurd ((h x).1 (List.mem_cons_self ..)) List.not_mem_nil
  | x :: l, y :: m, hl, hm, h => by
    obtain ⟨h1, h2⟩ := List.pairwise_cons.1 hl
    obtain ⟨h3, h4⟩ := List.pairwise_cons.1 hm
    have nn : ∀ {a b : W}, cmpW a b < 0 → cmpW b a < 0 → False := fun {a b} p q => by have := cmpW_swap a b; omega
    have irr : ∀ a : W, ¬ cmpW a a < 0 := fun a p => nn p p
    have hxy : x = y := by
      rcases List.mem_cons.1 ((h x).1 (List.mem_cons_self ..)) with e | e
      · exact e
      · rcases List.mem_cons.1 ((h y).2 (List.mem_cons_self ..)) with f | f
        · exact f.symm
        · exact (nn (h3 x e) (h1 y f)).elim
    subst hxy
    congr 1
    refine Asc.ext h2 h4 fun z => ⟨fun hz => ?_, fun hz => ?_⟩
    · rcases List.mem_cons.1 ((h z).1 (List.mem_cons_of_mem _ hz)) with e | e
      · subst e; exact absurd (h1 z hz) (irr z)
      · exact e
    · rcases List.mem_cons.1 ((h z).2 (List.mem_cons_of_mem _ hz)) with e | e
      · subst e; exact absurd (h3 z hz) (irr z)
      · exact e
/-- a word is set into an ascending list, unless it is there -/
def ins (w : W) : List W → List W
  | [] => [w]
  | x :: l => if cmpW x w < 0 then x :: ins w l else if x = w then x :: l else w :: x :: l
theorem mem_ins {w z : W} : ∀ {l : List W}, z ∈ ins w l ↔ z = w ∨ z ∈ l
  | [] => by simp [ins]
  | x :: l => by
    have ih := mem_ins (w := w) (z := z) (l := l)
    unfold ins
    split
    · rw [List.mem_cons, ih, List.mem_cons]
      exact ⟨fun h => by rcases h with h | h | h <;> simp [h], fun h => by rcases h with h | h | h <;> simp [h]⟩
    · split
      · rename_i e
        subst e
        simp
      · simp
theorem asc_ins {w : W} : ∀ {l : List W}, Asc l → Asc (ins w l)
  | [], _ => List.pairwise_singleton ..
  | x :: l, h => by
    obtain ⟨h1, h2⟩ := List.pairwise_cons.1 h
    unfold ins
    split
    · rename_i hx
      refine List.pairwise_cons.2 ⟨fun z hz => ?_, asc_ins h2⟩
      rcases mem_ins.1 hz with e | e
      · rw [e]; exact hx
      · exact h1 z e
    · split
      · exact h
      · rename_i hx hne
        have hwx : cmpW w x < 0 := by
          have := cmpW_swap w x
          have h0 : cmpW w x ≠ 0 := fun e => hne (cmpW_zero.1 e).symm
          omega
        refine List.pairwise_cons.2 ⟨fun z hz => ?_, h⟩
        rcases List.mem_cons.1 hz with e | e
        · rw [e]; exact hwx
        · exact cmpW_trans hwx (h1 z e)
/-- the cyclically reduced core of a reduced word -/
def cycTo : Nat → W → W
  | 0, w => w
  | n + 1, w => if 1 < w.length ∧ opp (w.getD 0 0) (w.getD (w.length - 1) 0) = true then cycTo n ((w.drop 1).take (w.length - 2)) else w
def cyc (w : W) : W := cycTo w.length (red w)
def rot (w : W) (k : Nat) : W := w.drop k ++ w.take k
def bestTo (v b : W) (k : Nat) : W := foldTo (fun k b => if cmpW (rot v k) b < 0 then rot v k else b) k b
def leastZ (v : W) : W := bestTo (invW v) (bestTo v v v.length) (invW v).length
/-- the least conjugate -/
def leastW (w : W) : W := leastZ (cyc w)
/-- the clean relators of the first k -/
def cleanTo (rels : List W) (k : Nat) : List W := foldTo (fun k out => if leastW (rels.getD k []) = [] then out else ins (leastW (rels.getD k [])) out) k []
def cleanL (rels : List W) : List W := cleanTo rels rels.length
def leastsTo (rels : List W) (k : Nat) : List W := foldTo (fun k out => if leastW (rels.getD k []) = [] then out else out ++ [leastW (rels.getD k [])]) k []
theorem asc_clean (rels : List W) : ∀ k, Asc (cleanTo rels k)
  | 0 => List.Pairwise.nil
  | k + 1 => by
    show Asc (if leastW (rels.getD k []) = [] then cleanTo rels k else ins (leastW (rels.getD k [])) (cleanTo rels k))
    split
    · exact asc_clean rels k
    · exact asc_ins (asc_clean rels k)
theorem mem_clean (rels : List W) (z : W) : ∀ k, z ∈ cleanTo rels k ↔ z ∈ leastsTo rels k
  | 0 => Iff.rfl
  | k + 1 => by
    have ih := mem_clean rels z k
    show z ∈ (if leastW (rels.getD k []) = [] then cleanTo rels k else ins (leastW (rels.getD k [])) (cleanTo rels k)) ↔ z ∈ (if leastW (rels.getD k []) = [] then leastsTo rels k else leastsTo rels k ++ [leastW (rels.getD k [])])
    split
    · exact ih
    · rw [mem_ins, ih, List.mem_append, List.mem_singleton, or_comm]
/-- equal neighbours are struck out -/
def compactL : List W → List W
  | [] => []
  | [x] => [x]
  | x :: y :: l => if x = y then compactL (y :: l) else x :: compactL (y :: l)
theorem mem_compact {z : W} : ∀ {l : List W}, z ∈ compactL l ↔ z ∈ l
  | [] => Iff.rfl
  | [x] => Iff.rfl
  | x :: y :: l => by
    have ih := mem_compact (z := z) (l := y :: l)
    unfold compactL
    split
    · rename_i e
      subst e
      rw [ih]; simp
    · rw [List.mem_cons, ih, List.mem_cons (a := z) (b := x)]
theorem asc_compact : ∀ {l : List W}, (l.Pairwise fun a b => ¬ cmpW b a < 0) → Asc (compactL l)
  | [], _ => List.Pairwise.nil
  | [x], _ => List.pairwise_singleton ..
  | x :: y :: l, h => by
    obtain ⟨h1, h2⟩ := List.pairwise_cons.1 h
    have ih := asc_compact h2
    unfold compactL
    split
    · exact ih
    · rename_i hne
      refine List.pairwise_cons.2 ⟨fun z hz => ?_, ih⟩
      have hz' := mem_compact.1 hz
      have hxy : cmpW x y < 0 := by
        have h3 := h1 y (List.mem_cons_self ..)
        have := cmpW_swap x y
        have h0 : cmpW x y ≠ 0 := fun e => hne (cmpW_zero.1 e)
        omega
      rcases List.mem_cons.1 hz' with e | e
      · rw [e]; exact hxy
      · have h4 := (List.pairwise_cons.1 h2).1 z e
        have := cmpW_swap y z
        rcases Int.lt_or_eq_of_le (show cmpW y z ≤ 0 by omega) with q | q
        · exact cmpW_trans hxy q
        · rw [← cmpW_zero.1 q]; exact hxy
/-- what is sorted and struck out is what is set in one by one -/
theorem clean_of_sorted {rels l : List W} (hp : l.Perm (leastsTo rels rels.length)) (hs : l.Pairwise fun a b => ¬ cmpW b a < 0) : compactL l = cleanL rels :=
  Asc.ext (asc_compact hs) (asc_clean rels _) fun x => by rw [mem_compact, hp.mem_iff]; exact (mem_clean rels x _).symm
end Go.Proofs.Tz
namespace Go.Proofs
open Go.RowKit Go.Shelf Go.Lib Go.Sort Go.Proofs.Ct Go.Proofs.Tz
/-- a world that has drawn and laid, nothing else -/
def Gr (W W' : World) : Prop := ∃ q os, W' = grow (W.drewN q) os
theorem Gr.refl (W : World) : Gr W W := ⟨0, #[], by simp; rfl⟩
theorem Gr.alloc {W W' : World} (h : Gr W W') (o : Obj) : Gr W (W'.alloc o) := let ⟨q, os, e⟩ := h; ⟨q, os ++ #[o], by rw [e, alloc_eq_grow, grow_grow]⟩
theorem Gr.drew {W W' : World} (h : Gr W W') : Gr W W'.drew := let ⟨q, os, e⟩ := h; ⟨q + 1, os, by rw [e, drew_grow]; rfl⟩
theorem Gr.drewN {W W' : World} (h : Gr W W') (n : Nat) : Gr W (W'.drewN n) := let ⟨q, os, e⟩ := h; ⟨q + n, os, by rw [e, ← World.drewN_drewN]; rfl⟩
theorem isNaN76_any (w : World) (x : Int) : Calls Tryz.prog 123 #[.int .i64 x] w fun e w' => e = .returned (.bool false) ∧ w' = w := by
  have hd : (x != x) = false := by simp
  go_enter Tryz.func123, Tryz.ntmps123
  go_wp2_with fail
  go_ret
  exact ⟨rfl, rfl⟩
theorem isNaN88_any (w : World) (x : Int) : Calls Tryz.prog 142 #[.int .u64 x] w fun e w' => e = .returned (.bool false) ∧ w' = w := by
  have hd : (x != x) = false := by simp
  go_enter Tryz.func142, Tryz.ntmps142
  go_wp2_with fail
  go_ret
  exact ⟨rfl, rfl⟩
theorem compare66_any (w : World) (x y : Int) : Calls Tryz.prog 96 #[.int .i64 x, .int .i64 y] w fun e w' => e = .returned (.int .i64 (cmpI x y)) ∧ w' = w := by
  have HX := Lib.hid fun W => isNaN76_any W x
  have HY := Lib.hid fun W => isNaN76_any W y
  obtain ⟨R, hR⟩ : ∃ R, R = cmpI x y := ⟨_, rfl⟩
  rw [← hR]
  by_cases h1 : x < y
  · have HE : Hid (R = -1) := Lib.hid (by rw [hR]; unfold cmpI; rw [if_pos h1])
    clear hR
    go_enter Tryz.func96, Tryz.ntmps96
    go_wp2_with (first
      | (go_at_call 123; (with_reducible refine (HX.out _).mono ?_); rintro e w' ⟨rfl, rfl⟩)
      | (go_at_call 123; (with_reducible refine (HY.out _).mono ?_); rintro e w' ⟨rfl, rfl⟩))
    go_ret
    exact ⟨ret_int HE.out.symm, rfl⟩
  · by_cases h2 : y < x
    · have HE : Hid (R = 1) := Lib.hid (by rw [hR]; unfold cmpI; rw [if_neg h1, if_pos h2])
      clear hR
      go_enter Tryz.func96, Tryz.ntmps96
      go_wp2_with (first
        | (go_at_call 123; (with_reducible refine (HX.out _).mono ?_); rintro e w' ⟨rfl, rfl⟩)
        | (go_at_call 123; (with_reducible refine (HY.out _).mono ?_); rintro e w' ⟨rfl, rfl⟩))
      go_ret
      exact ⟨ret_int HE.out.symm, rfl⟩
    · have HE : Hid (R = 0) := Lib.hid (by rw [hR]; unfold cmpI; rw [if_neg h1, if_neg h2])
      clear hR
      go_enter Tryz.func96, Tryz.ntmps96
      go_wp2_with (first
        | (go_at_call 123; (with_reducible refine (HX.out _).mono ?_); rintro e w' ⟨rfl, rfl⟩)
        | (go_at_call 123; (with_reducible refine (HY.out _).mono ?_); rintro e w' ⟨rfl, rfl⟩))
      go_ret
      exact ⟨ret_int HE.out.symm, rfl⟩
theorem compare77_any (w : World) (x y : Int) : Calls Tryz.prog 124 #[.int .u64 x, .int .u64 y] w fun e w' => e = .returned (.int .i64 (cmpI x y)) ∧ w' = w := by
  have HX := Lib.hid fun W => isNaN88_any W x
  have HY := Lib.hid fun W => isNaN88_any W y
  obtain ⟨R, hR⟩ : ∃ R, R = cmpI x y := ⟨_, rfl⟩
  rw [← hR]
  by_cases h1 : x < y
  · have HE : Hid (R = -1) := Lib.hid (by rw [hR]; unfold cmpI; rw [if_pos h1])
    clear hR
    go_enter Tryz.func124, Tryz.ntmps124
    go_wp2_with (first
      | (go_at_call 142; (with_reducible refine (HX.out _).mono ?_); rintro e w' ⟨rfl, rfl⟩)
      | (go_at_call 142; (with_reducible refine (HY.out _).mono ?_); rintro e w' ⟨rfl, rfl⟩))
    go_ret
    exact ⟨ret_int HE.out.symm, rfl⟩
  · by_cases h2 : y < x
    · have HE : Hid (R = 1) := Lib.hid (by rw [hR]; unfold cmpI; rw [if_neg h1, if_pos h2])
      clear hR
      go_enter Tryz.func124, Tryz.ntmps124
      go_wp2_with (first
        | (go_at_call 142; (with_reducible refine (HX.out _).mono ?_); rintro e w' ⟨rfl, rfl⟩)
        | (go_at_call 142; (with_reducible refine (HY.out _).mono ?_); rintro e w' ⟨rfl, rfl⟩))
      go_ret
      exact ⟨ret_int HE.out.symm, rfl⟩
    · have HE : Hid (R = 0) := Lib.hid (by rw [hR]; unfold cmpI; rw [if_neg h1, if_neg h2])
      clear hR
      go_enter Tryz.func124, Tryz.ntmps124
      go_wp2_with (first
        | (go_at_call 142; (with_reducible refine (HX.out _).mono ?_); rintro e w' ⟨rfl, rfl⟩)
        | (go_at_call 142; (with_reducible refine (HY.out _).mono ?_); rintro e w' ⟨rfl, rfl⟩))
      go_ret
      exact ⟨ret_int HE.out.symm, rfl⟩
theorem or65_any (w : World) (v : Value) (a b : Int) (h : IntsAt w v [a, b]) : Calls Tryz.prog 95 #[v] w fun e w' => e = .returned (.int .i64 (if a ≠ 0 then a else b)) ∧ ∃ q, w' = w.drewN q := by
  obtain ⟨A, c, rfl, h1, h2, hc⟩ := h.open_
  obtain ⟨g, o, rfl, hcc⟩ := hc (by simp)
  have ha := hcc 0 (by simp)
  have hb := hcc 1 (by simp)
  simp only [List.getD_cons_zero, List.getD_cons_succ, Nat.add_zero] at ha hb
  clear h hc hcc
  simp only [List.length_cons, List.length_nil, Nat.zero_add] at h1 ⊢
  obtain ⟨R, hR⟩ : ∃ R, R = (if a ≠ 0 then a else b) := ⟨_, rfl⟩
  rw [← hR]
  have HR := Lib.hid hR
  clear hR
  go_enter Tryz.func95, Tryz.ntmps95
  go_wp2_with fail
  go_loopw [8] (fun z wr => ∃ k : Nat, k ≤ 2 ∧ z = .int .i64 k ∧ (1 ≤ k → a = 0) ∧ (2 ≤ k → b = 0) ∧ ∃ q, wr = w.drewN q) (fun z _ => 2 - (intOf z).toNat)
  case atStart => exact ⟨0, by omega, rfl, fun h => absurd h (by omega), fun h => absurd h (by omega), 0, rfl⟩
  case round =>
    obtain ⟨k, hk, rfl, hz1, hz2, q, rfl⟩ := hrel
    obtain rfl | rfl | rfl : k = 0 ∨ k = 1 ∨ k = 2 := by omega
    · clear hz1 hz2
      by_cases h0 : a = 0
      · have hd : (a != 0) = false := by simpa using h0
        have H0 := Lib.hid h0
        clear h0
        go_wp2_with fail
        go_roundw
        case rel => exact ⟨1, by omega, by go_num, fun _ => H0.out, fun h => absurd h (by omega), _, rfl⟩
        case measure => simp [intOf]
      · have hd : (a != 0) = true := by simpa using h0
        have HE : Hid (R = a) := Lib.hid (by rw [HR.out, if_pos h0])
        clear h0
        go_wp2_with fail
        go_ret
        exact ⟨ret_int HE.out.symm, _, rfl⟩
    · have ha0 := hz1 (by omega)
      subst ha0
      clear hz1 hz2
      have HE : Hid (R = b) := Lib.hid (by rw [HR.out]; simp)
      by_cases h0 : b = 0
      · have hd : (b != 0) = false := by simpa using h0
        have H0 := Lib.hid h0
        clear h0
        go_wp2_with fail
        go_roundw
        case rel => exact ⟨2, by omega, by go_num, fun _ => trivial, fun _ => H0.out, _, rfl⟩
        case measure => simp [intOf]
      · have hd : (b != 0) = true := by simpa using h0
        clear h0
        go_wp2_with fail
        go_ret
        exact ⟨ret_int HE.out.symm, _, rfl⟩
    · have HE : Hid (R = 0) := Lib.hid (by rw [HR.out, if_neg (by simpa using hz1 (by omega))]; exact hz2 (by omega))
      clear hz1 hz2
      go_wp2_with fail
      go_ret
      exact ⟨ret_int HE.out.symm, _, rfl⟩
theorem size58_any (w : World) (x : Int) (hx : Mild x) : Calls Tryz.prog 111 #[.int .i64 x] w fun e w' => e = .returned (.int .u64 (x.natAbs : Int)) ∧ w' = w := by
  obtain ⟨h1, h2⟩ := hx
  rcases Int.lt_or_le x 0 with h | h
  · have e1 : IntKind.u64.wrap x = x + 18446744073709551616 := by simp [IntKind.wrap, IntKind.bits, IntKind.signed]; omega
    have e2 : IntKind.u64.wrap (-(x + 18446744073709551616)) = -x := by simp [IntKind.wrap, IntKind.bits, IntKind.signed]; omega
    have HE : Hid ((x.natAbs : Int) = -x) := Lib.hid (by omega)
    go_enter Tryz.func111, Tryz.ntmps111
    go_wp2_with fail
    go_ret
    rw [HE.out]
    exact ⟨by first | rfl | simp [e1, e2], rfl⟩
  · have e1 : IntKind.u64.wrap x = x := by simp [IntKind.wrap, IntKind.bits, IntKind.signed]; omega
    have HE : Hid ((x.natAbs : Int) = x) := Lib.hid (by omega)
    go_enter Tryz.func111, Tryz.ntmps111
    go_wp2_with fail
    go_ret
    rw [HE.out]
    exact ⟨by first | rfl | simp [e1], rfl⟩
end Go.Proofs
namespace Go.Proofs
open Go.RowKit Go.Shelf Go.Lib Go.Sort Go.Proofs.Ct Go.Proofs.Tz
theorem cmpI_bd (x y : Int) : -1 ≤ cmpI x y ∧ cmpI x y ≤ 1 := by unfold cmpI; split <;> (try split) <;> omega
theorem ints_two {X : World} {g : Nat} {a b : Int} {t : TypeId} (h : X.heap[g]? = some (.cells #[.int .i64 a, .int .i64 b] t (0, 0))) (ha : -9223372036854775808 ≤ a ∧ a ≤ 9223372036854775807) (hb : -9223372036854775808 ≤ b ∧ b ≤ 9223372036854775807) : IntsAt X (.slice (some ⟨g, 0, none⟩) 2 2) [a, b] := by
  refine ⟨⟨_, 2, 2, rfl, rfl, Nat.le_refl _, by simp [maxLen], fun _ => ⟨g, 0, rfl, fun j v hv => ?_⟩⟩, fun z hz => ?_⟩
  · rw [cell_of_row _ _ _ _ _ _ h, Nat.zero_add, ← hv]
    have : j = 0 ∨ j = 1 := by
      have := (List.getElem?_eq_some_iff.1 hv).1
      simp [ints] at this; omega
    rcases this with rfl | rfl <;> rfl
  · rcases List.mem_cons.1 hz with rfl | hz
    · exact ha
    · rcases List.mem_cons.1 hz with rfl | hz
      · exact hb
      · cases hz
theorem or65_new (X : World) (a b : Int) (t : TypeId) (ha : -9223372036854775808 ≤ a ∧ a ≤ 9223372036854775807) (hb : -9223372036854775808 ≤ b ∧ b ≤ 9223372036854775807) :
    Calls Tryz.prog 95 #[.slice (some ⟨X.heap.size, 0, none⟩) 2 2] (X.alloc (.cells #[.int .i64 a, .int .i64 b] t)) fun e w' => e = .returned (.int .i64 (if a ≠ 0 then a else b)) ∧ ∃ q, w' = (X.alloc (.cells #[.int .i64 a, .int .i64 b] t)).drewN q :=
  or65_any _ _ a b (ints_two (heap_alloc_new X _) ha hb)
theorem before68_any (w : World) (x y : Int) (hx : Mild x) (hy : Mild y) : Calls Tryz.prog 98 #[.int .i64 x, .int .i64 y] w fun e w' => e = .returned (.int .i64 (befI x y)) ∧ Gr w w' := by
  have HS1 := Lib.hid fun W => size58_any W x hx
  have HS2 := Lib.hid fun W => size58_any W y hy
  have HC1 := Lib.hid fun W => compare77_any W x.natAbs y.natAbs
  have HC2 := Lib.hid fun W => compare66_any W y x
  have HR : Hid (befI x y = if cmpI x.natAbs y.natAbs ≠ 0 then cmpI x.natAbs y.natAbs else cmpI y x) := Lib.hid rfl
  have hb1 := cmpI_bd x.natAbs y.natAbs
  have hb2 := cmpI_bd y x
  clear hx hy
  generalize (x.natAbs : Int) = p at *
  generalize (y.natAbs : Int) = q at *
  generalize cmpI p q = a at *
  generalize cmpI y x = b at *
  generalize befI x y = R at *
  have HO : Hid (∀ (X : World) (t : TypeId), Calls Tryz.prog 95 #[.slice (some ⟨X.heap.size, 0, none⟩) 2 2] (X.alloc (.cells #[.int .i64 a, .int .i64 b] t)) fun e w' => e = .returned (.int .i64 R) ∧ ∃ q, w' = (X.alloc (.cells #[.int .i64 a, .int .i64 b] t)).drewN q) := Lib.hid fun X t => by
    rw [HR.out]
    exact or65_new X a b t (by omega) (by omega)
  clear hb1 hb2
  go_enter Tryz.func98, Tryz.ntmps98
  go_wp2_with (first
    | (go_at_call 111; (with_reducible refine (HS1.out _).mono ?_); rintro e w' ⟨rfl, rfl⟩)
    | (go_at_call 111; (with_reducible refine (HS2.out _).mono ?_); rintro e w' ⟨rfl, rfl⟩)
    | (go_at_call 124; (with_reducible refine (HC1.out _).mono ?_); rintro e w' ⟨rfl, rfl⟩)
    | (go_at_call 96; (with_reducible refine (HC2.out _).mono ?_); rintro e w' ⟨rfl, rfl⟩)
    | (go_at_call 95; (with_reducible refine (HO.out _ _).mono ?_); rintro e w' ⟨rfl, k, rfl⟩))
  go_ret
  exact ⟨rfl, ((Gr.refl _).alloc _).drewN _⟩
theorem cmpL_bd (a b : W) : -1 ≤ cmpL a b ∧ cmpL a b ≤ 1 := by
  induction a generalizing b with
  | nil => cases b <;> simp [cmpL]
  | cons x a ih =>
    cases b with
    | nil => simp [cmpL]
    | cons y b =>
      unfold cmpL
      split
      · rw [befI_key]; exact cmpI_bd _ _
      · exact ih b
theorem cmpL_drop {x y : W} {k : Nat} (hx : k < x.length) (hy : k < y.length) : cmpL (x.drop k) (y.drop k) = if befI (x.getD k 0) (y.getD k 0) ≠ 0 then befI (x.getD k 0) (y.getD k 0) else cmpL (x.drop (k + 1)) (y.drop (k + 1)) := by
  rw [List.drop_eq_getElem_cons hx, List.drop_eq_getElem_cons hy]
  simp only [cmpL, List.getD_eq_getElem?_getD, List.getElem?_eq_getElem hx, List.getElem?_eq_getElem hy, Option.getD_some]
theorem cmpL_end1 {x y : W} {k : Nat} (hx : k < x.length) (hy : y.length ≤ k) : cmpL (x.drop k) (y.drop k) = 1 := by
  rw [List.drop_eq_getElem_cons hx, List.drop_of_length_le hy]; rfl
theorem cmpL_end2 {x y : W} {k : Nat} (hx : x.length ≤ k) : cmpL (x.drop k) (y.drop k) = if k < y.length then -1 else 0 := by
  rw [List.drop_of_length_le hx]
  split
  · rename_i h; rw [List.drop_eq_getElem_cons h]; rfl
  · rw [List.drop_of_length_le (by omega)]; rfl
theorem Gr.below {W W' : World} (h : Gr W W') : Below W.heap.size W W' := by
  obtain ⟨q, os, rfl⟩ := h
  have h1 := below_drewN (Below.refl W.heap.size W) q
  refine h1.trans ?_
  exact ⟨rfl, rfl, rfl, by simp [grow], fun k hk => by
    show (W.heap ++ os)[k]? = W.heap[k]?
    rw [Array.getElem?_append_left hk]⟩
theorem Gr.trans {A B C : World} (h : Gr A B) (k : Gr B C) : Gr A C := by
  obtain ⟨q, os, rfl⟩ := h
  obtain ⟨r, os', rfl⟩ := k
  refine ⟨q + r, os ++ os', ?_⟩
  rw [← grow_grow, ← World.drewN_drewN]
  rfl
set_option maxRecDepth 100000 in
theorem compareFunc67_any (w : World) (u v : Value) (x y : List Int) (hu : IntsAt w u x) (hv : IntsAt w v y) (hmx : ∀ z ∈ x, Mild z) (hmy : ∀ z ∈ y, Mild z) : Calls Tryz.prog 97 #[u, v, .func (.func 98) #[] #[]] w fun e w' => e = .returned (.int .i64 (cmpL x y)) ∧ Gr w w' := by
  obtain ⟨R, hR⟩ : ∃ R, R = cmpL x y := ⟨_, rfl⟩
  rw [← hR]
  have HU := Lib.hid hu
  have HV := Lib.hid hv
  have HX := Lib.hid hmx
  have HY := Lib.hid hmy
  have HR : Hid (R = cmpL (x.drop 0) (y.drop 0)) := Lib.hid (by rw [hR]; rfl)
  obtain ⟨A, c, rfl, h1, h2, -⟩ := hu.open_
  obtain ⟨B, d, rfl, h3, h4, -⟩ := hv.open_
  clear hu hv hmx hmy hR
  have hx0 : (0 : Int) ≤ (x.length : Int) := Int.natCast_nonneg _
  have hy0 : (0 : Int) ≤ (y.length : Int) := Int.natCast_nonneg _
  have hx1 : (x.length : Int) ≤ 9223372036854775807 := by omega
  have hy1 : (y.length : Int) ≤ 9223372036854775807 := by omega
  go_enter Tryz.func97, Tryz.ntmps97
  go_wp2_with fail
  go_loopw [13] (fun z wr => ∃ k : Nat, k ≤ x.length ∧ z = .int .i64 k ∧ R = cmpL (x.drop k) (y.drop k) ∧ Gr w wr) (fun z _ => x.length - (intOf z).toNat)
  case atStart => exact ⟨0, by omega, rfl, HR.out, Gr.refl _⟩
  case round =>
    obtain ⟨k, hk, rfl, hE, hG⟩ := hrel
    have HE := Lib.hid hE
    have HG := Lib.hid hG
    have HU' := Lib.hid (HU.out.below hG.below)
    have HV' := Lib.hid (HV.out.below hG.below)
    clear hE hG
    by_cases hkx : k < x.length
    · have hkx' : (k : Int) < (x.length : Int) := by omega
      obtain ⟨A', c', e1, -, -, hc⟩ := HU'.out.open_
      injection e1 with e1 e2 e3
      subst e1 e3
      obtain ⟨b, o, rfl, hcc⟩ := hc (by omega)
      have hcx := hcc k hkx
      clear hc hcc e2
      by_cases hky : k < y.length
      · have hky' : ¬ (y.length : Int) ≤ (k : Int) := by omega
        obtain ⟨B', d', e1, -, -, hd⟩ := HV'.out.open_
        injection e1 with e1 e2 e3
        subst e1 e3
        obtain ⟨b2, o2, rfl, hdd⟩ := hd (by omega)
        have hcy := hdd k hky
        have HD := Lib.hid (cmpL_drop hkx hky)
        clear hd hdd e2
        have HB : Hid (∀ W, Calls Tryz.prog 98 #[.int .i64 (x.getD k 0), .int .i64 (y.getD k 0)] W fun e w' => e = .returned (.int .i64 (befI (x.getD k 0) (y.getD k 0))) ∧ Gr W w') := Lib.hid fun W => before68_any W _ _ (Mild.at_ HX.out k) (Mild.at_ HY.out k)
        generalize x.getD k 0 = p at *
        generalize y.getD k 0 = q at *
        generalize befI p q = z at *
        clear hkx hky
        go_wp2_with (first
          | (go_at_call 98; (with_reducible refine (HB.out _).mono ?_); rintro e w' ⟨rfl, hg⟩))
        · go_ret
          exact ⟨ret_int (by rw [HE.out, HD.out, if_pos (by simp_all)]), HG.out.trans hg⟩
        · go_roundw
          case rel => exact ⟨k + 1, by omega, by go_num, by rw [HE.out, HD.out, if_neg (by simp_all)], HG.out.trans hg⟩
          case measure => simp [intOf]; omega
      · have hky' : (y.length : Int) ≤ (k : Int) := by omega
        have HF := Lib.hid (cmpL_end1 hkx (show y.length ≤ k by omega))
        clear hkx hky
        go_wp2_with fail
        go_ret
        exact ⟨ret_int (by rw [HE.out, HF.out]), HG.out⟩
    · have hkx' : ¬ (k : Int) < (x.length : Int) := by omega
      have HF := Lib.hid (cmpL_end2 (y := y) (show x.length ≤ k by omega))
      have hke : k = x.length := by omega
      subst hke
      clear hkx
      by_cases hl : x.length < y.length
      · have hl' : (x.length : Int) < (y.length : Int) := by omega
        go_wp2_with fail
        go_ret
        exact ⟨ret_int (by rw [HE.out, HF.out, if_pos hl]), HG.out⟩
      · have hl' : ¬ (x.length : Int) < (y.length : Int) := by omega
        go_wp2_with fail
        go_ret
        exact ⟨ret_int (by rw [HE.out, HF.out, if_neg hl]), HG.out⟩
set_option maxRecDepth 100000 in
theorem cmp46_any (w : World) (u v : Value) (x y : List Int) (hu : IntsAt w u x) (hv : IntsAt w v y) (hmx : ∀ z ∈ x, Mild z) (hmy : ∀ z ∈ y, Mild z) : Calls Tryz.prog 52 #[u, v] w fun e w' => e = .returned (.int .i64 (cmpW x y)) ∧ Gr w w' := by
  have HU := Lib.hid hu
  have HV := Lib.hid hv
  obtain ⟨A, c, rfl, h1, h2, -⟩ := hu.open_
  obtain ⟨B, d, rfl, h3, h4, -⟩ := hv.open_
  have HC1 := Lib.hid fun W => compare66_any W (x.length : Int) (y.length : Int)
  have HC2 : Hid (∀ W, Gr w W → Calls Tryz.prog 97 #[.slice A x.length c, .slice B y.length d, .func (.func 98) #[] #[]] W fun e w' => e = .returned (.int .i64 (cmpL x y)) ∧ Gr W w') := Lib.hid fun W h => compareFunc67_any W _ _ x y (HU.out.below h.below) (HV.out.below h.below) hmx hmy
  have HR : Hid (cmpW x y = if cmpI (x.length : Int) (y.length : Int) ≠ 0 then cmpI (x.length : Int) (y.length : Int) else cmpL x y) := Lib.hid rfl
  have hb1 := cmpI_bd (x.length : Int) (y.length : Int)
  have hb2 := cmpL_bd x y
  clear hu hv hmx hmy
  have hx0 : (0 : Int) ≤ (x.length : Int) := Int.natCast_nonneg _
  have hy0 : (0 : Int) ≤ (y.length : Int) := Int.natCast_nonneg _
  have hx1 : (x.length : Int) ≤ 9223372036854775807 := by omega
  have hy1 : (y.length : Int) ≤ 9223372036854775807 := by omega
  generalize cmpI (x.length : Int) (y.length : Int) = a at *
  generalize cmpL x y = b at *
  generalize cmpW x y = R at *
  have HO : Hid (∀ (X : World) (t : TypeId), Calls Tryz.prog 95 #[.slice (some ⟨X.heap.size, 0, none⟩) 2 2] (X.alloc (.cells #[.int .i64 a, .int .i64 b] t)) fun e w' => e = .returned (.int .i64 R) ∧ ∃ q, w' = (X.alloc (.cells #[.int .i64 a, .int .i64 b] t)).drewN q) := Lib.hid fun X t => by
    rw [HR.out]
    exact or65_new X a b t (by omega) (by omega)
  clear hb1 hb2
  go_enter Tryz.func52, Tryz.ntmps52
  go_wp2_with (first
    | (go_at_call 96; (with_reducible refine (HC1.out _).mono ?_); rintro e w' ⟨rfl, rfl⟩)
    | (go_at_call 97; (with_reducible refine (HC2.out _ (Gr.refl _)).mono ?_); rintro e w' ⟨rfl, hg⟩)
    | (go_at_call 95; (with_reducible refine (HO.out _ _).mono ?_); rintro e w' ⟨rfl, k, rfl⟩))
  go_ret
  exact ⟨rfl, (hg.alloc _).drewN _⟩
end Go.Proofs
namespace Go.Proofs.Tz
open Go.Proofs.Ct (W red inv mulW invW opp foldTo)
def isG (g x : Int) : Bool := decide (x = g) || decide (x = -g)
/-- where a generator occurs once in a word -/
def onceW (w : W) (g : Int) : Option Nat := if w.countP (isG g) = 1 then some (w.findIdx (isG g)) else none
def lowI (g x : Int) : Int := if x > g then x - 1 else if x < -g then x + 1 else x
def lowW (g : Int) (w : W) : W := w.map (lowI g)
def imgW (r : W) (at_ : Nat) : W := let v := mulW (invW (r.take at_)) (invW (r.drop (at_ + 1))); if r.getD at_ 0 < 0 then invW v else v
def imgsW (n gen : Nat) (v : W) : List W := (List.range n).map fun i => if i + 1 = gen then lowW gen v else lowW gen [(i : Int) + 1]
/-- letters are replaced by words -/
def sbTo (G : List W) (z : W) (k : Nat) : W := foldTo (fun k out => mulW out (if 0 < z.getD k 0 then G.getD (z.getD k 0 - 1).toNat [] else inv (G.getD (-(z.getD k 0) - 1).toNat []))) k []
def sbW (G : List W) (z : W) : W := sbTo G z z.length
/-- all words of a list with their letters replaced; none: a word is too long -/
def sbL (G : List W) (l : List W) : Option (List W) := if l.all (fun z => decide ((sbW G z).length ≤ 4000)) then some (l.map (sbW G)) else none
def lenL (l : List W) : Nat := (l.map List.length).sum
/-- an elimination: the relators and the images that it leads to (of a valid presentation with n generators); an error -/
def elimE (n : Nat) (rels : List W) (rel gen : Nat) : (List W × List W) ⊕ Int :=
  match onceW (rels.getD rel []) gen with
  | none => .inr 13
  | some at_ => if n = 1 then .inr 13 else
    let v := imgW (rels.getD rel []) at_
    if 1000 < v.length then .inr 4 else
    match sbL (imgsW n gen v) (rels.eraseIdx rel) with
    | none => .inr 4
    | some l => if 4000 < lenL l then .inr 4 else .inl (cleanL l, imgsW n gen v)
/-- s by a word w that holds -/
def headsB (s : W) (k : Nat) (h : W) : Bool := (List.range h.length).all fun i => decide (s.getD ((k + i) % s.length) 0 = h.getD i 0)
def shortW (s w : W) : Option W :=
  let h := w.length / 2 + 1
  if h ≤ s.length then
    match (List.range s.length).find? (fun k => headsB s k (w.take h)) with
    | some k => some (mulW (invW (w.drop h)) ((rot s k).drop h))
    | none => none
  else none
def turnsW (r : W) : List W := (List.range r.length).map (rot r) ++ (List.range (invW r).length).map (rot (invW r))
def pairsN (n : Nat) : List (Nat × Nat) := ((List.range n).map fun i => ((List.range n).filter fun k => k != i).map fun k => (i, k)).flatten
/-- a shortening step -/
def shortF (rels : List W) : Option (List W) :=
  (pairsN rels.length).findSome? fun ik => (turnsW (rels.getD ik.1 [])).findSome? fun t => (shortW (rels.getD ik.2 []) t).map fun s => cleanL (rels.set ik.2 s)
/-- the first elimination that can be made -/
def firstE (n : Nat) (rels : List W) : Option ((List W × List W) × Nat) :=
  (List.range rels.length).findSome? fun i => ((List.range n).map fun j => n - j).findSome? fun gen =>
    match elimE n rels i gen with
    | .inl q => some (q, gen)
    | .inr _ => none
structure Sp where
  n : Nat
  rels : List W
  into : List W
  back : List Int
def Sp.elim (s : Sp) : Option (Sp ⊕ Unit) :=
  match firstE s.n s.rels with
  | none => none
  | some (q, gen) => some (match sbL q.2 s.into with
    | none => .inr ()
    | some l => .inl ⟨s.n - 1, q.1, l, s.back.eraseIdx (gen - 1)⟩)
def simpTo : Nat → Sp → Sp ⊕ Unit
  | 0, s => .inl s
  | k + 1, s =>
    match s.elim with
    | some (.inl s') => simpTo k s'
    | some (.inr u) => .inr u
    | none =>
      match shortF s.rels with
      | some l => simpTo k { s with rels := l }
      | none => .inl s
def sp0 (n : Nat) (rels : List W) : Sp := ⟨n, rels, (List.range n).map fun (i : Nat) => [(i : Int) + 1], (List.range n).map fun (i : Nat) => (i : Int) + 1⟩
def simpE (n : Nat) (rels : List W) (steps : Nat) : Sp ⊕ Unit := simpTo steps (sp0 n (cleanL rels))
example : (match simpE 3 [[3, -2, -1], [1, 1], [2, 2, 2], [3, 3]] 100 with | .inl s => (s.n, s.rels, s.into, s.back) | .inr _ => (0, [], [], [])) = (2, [[1, 1], [2, 2, 2], [1, 2, 1, 2]], [[1], [2], [1, 2]], [1, 2]) := by decide +kernel
example : (match elimE 2 [[1, 2, 2], [1, 1, 1]] 0 1 with | .inl q => q | .inr _ => ([], [])) = ([[1, 1, 1, 1, 1, 1]], [[-1, -1], [1]]) := by decide +kernel
example : shortF (cleanL [[1, 1, 1], [1, 1, 2]]) = some [[1, -2], [1, 1, 1]] := by decide +kernel
example : shortF (cleanL [[1, 1]]) = none := by decide +kernel
end Go.Proofs.Tz
namespace Go.Proofs.Ct
theorem pairRow_succ (t : Tb) (R : List W) (r g : Nat) (l : List (Nat × Nat)) : pairRow t R r (g + 1) l = if nt t R r g then pairRow t R r g l ++ [(r, g)] else pairRow t R r g l := rfl
theorem mem_pairRow {t : Tb} {R : List W} {r : Nat} {l : List (Nat × Nat)} {p : Nat × Nat} : ∀ {g : Nat}, p ∈ pairRow t R r g l → p ∈ l ∨ (p.1 = r ∧ p.2 < g ∧ nt t R r p.2 = true)
  | 0, h => .inl h
  | g + 1, h => by
    rw [pairRow_succ] at h
    split at h
    · rename_i hn
      rcases List.mem_append.1 h with h | h
      · rcases mem_pairRow h with h | ⟨h1, h2, h3⟩
        · exact .inl h
        · exact .inr ⟨h1, by omega, h3⟩
      · have e : p = (r, g) := by simpa using h
        subst e
        exact .inr ⟨rfl, Nat.lt_succ_self g, hn⟩
    · rcases mem_pairRow h with h | ⟨h1, h2, h3⟩
      · exact .inl h
      · exact .inr ⟨h1, by omega, h3⟩
theorem mem_pairTo {t : Tb} {R : List W} {gens : Nat} {p : Nat × Nat} : ∀ {r : Nat}, p ∈ pairTo t R gens r → p.1 < r ∧ p.2 < gens ∧ nt t R p.1 p.2 = true
  | 0, h => by simp [pairTo, foldTo] at h
  | r + 1, h => by
    rcases mem_pairRow h with h | ⟨h1, h2, h3⟩
    · have := mem_pairTo h
      exact ⟨by omega, this.2⟩
    · exact ⟨by omega, h2, by rw [h1]; exact h3⟩
theorem pairs_mem {t : Tb} {R : List W} {gens : Nat} {p : Nat × Nat} (h : p ∈ pairs t R gens) : p.1 < t.length ∧ p.2 < gens := ⟨(mem_pairTo h).1, (mem_pairTo h).2.1⟩
end Go.Proofs.Ct
namespace Go.Proofs.Ct
theorem mem_repCol {t : Tb} {r c : Nat} {out : List W} {w : W} (h : w ∈ repCol t r c out) : w ∈ out ∨ w = out.getD r [] ++ [letter c] := by
  unfold repCol at h
  split at h
  · simpa using h
  · exact .inl h
theorem getD_mem_or {out : List W} {r : Nat} : out.getD r [] ∈ out ∨ out.getD r [] = [] := by
  rw [List.getD_eq_getElem?_getD]
  rcases Nat.lt_or_ge r out.length with h | h
  · rw [List.getElem?_eq_getElem h]; exact .inl (List.getElem_mem h)
  · rw [List.getElem?_eq_none h]; exact .inr rfl
def Lets (N : Nat) (out : List W) : Prop := ∀ w ∈ out, ∀ x ∈ w, ∃ c, c < N ∧ x = letter c
theorem Lets.col {t : Tb} {N r c : Nat} {out : List W} (h : Lets N out) (hc : c < N) : Lets N (repCol t r c out) := fun w hw x hx => by
  rcases mem_repCol hw with hw | rfl
  · exact h w hw x hx
  · rcases List.mem_append.1 hx with hx | hx
    · rcases @getD_mem_or out r with h1 | h1
      · exact h _ h1 x hx
      · rw [h1] at hx; cases hx
    · exact ⟨c, hc, by simpa using hx⟩
theorem Lets.row {t : Tb} {N r : Nat} {out : List W} (h : Lets N out) (hl : (t.row r).length ≤ N) : Lets N (repRow t r out) :=
  foldTo_inv (p := fun _ out => Lets N out) h _ fun c x hc hx => hx.col (by omega)
end Go.Proofs.Ct
namespace Go.Proofs.Ct
/-- the column of a letter -/
def col (x : Int) : Nat := if 0 < x then (2 * x - 2).toNat else (-2 * x - 1).toNat
/-- where a word leads; -1: nowhere -/
def leadTo (t : Tb) (r : Int) (w : W) (k : Nat) : Int := foldTo (fun k r => if r < 0 then r else t.at r.toNat (col (w.getD k 0))) k r
def leads (t : Tb) (r : Int) (w : W) : Int := leadTo t r w w.length
/-- all words of a list lead from r to r -/
def staysB (t : Tb) (r : Int) (l : List W) : Bool := l.all fun w => decide (leads t r w = r)
def holdsB (rels sub : List W) (t : Tb) : Bool := complete t && staysB t 0 sub && (List.range t.length).all fun r => staysB t (r : Int) rels
theorem leadTo_succ (t : Tb) (r : Int) (w : W) (k : Nat) : leadTo t r w (k + 1) = if leadTo t r w k < 0 then leadTo t r w k else t.at (leadTo t r w k).toNat (col (w.getD k 0)) := rfl
end Go.Proofs.Ct
namespace Go.Proofs.Ct
/-- the element (r, c) set -/
def set2 (t : Tb) (r c : Nat) (v : Int) : Tb := t.set r ((t.row r).set c v)
theorem length_set2 (t : Tb) (r c : Nat) (v : Int) : (set2 t r c v).length = t.length := by simp [set2]
theorem row_set2 (t : Tb) (r c : Nat) (v : Int) (k : Nat) : (set2 t r c v).row k = if r = k ∧ r < t.length then (t.row r).set c v else t.row k := by
  unfold set2 Tb.row
  rw [List.getD_eq_getElem?_getD, List.getElem?_set]
  by_cases h : r = k
  · subst h
    by_cases h2 : r < t.length
    · simp [h2]
    · simp [h2, List.getD_eq_getElem?_getD]
  · simp [h, List.getD_eq_getElem?_getD]
theorem rowlen_set2 (t : Tb) (r c : Nat) (v : Int) (k : Nat) : ((set2 t r c v).row k).length = (t.row k).length := by
  rw [row_set2]
  split
  · rename_i h; rw [← h.1]; simp
  · rfl
theorem at_set2 (t : Tb) (r c : Nat) (v : Int) (k j : Nat) : (set2 t r c v).at k j = if r = k ∧ c = j ∧ r < t.length ∧ c < (t.row r).length then v else t.at k j := by
  unfold Tb.at
  rw [row_set2]
  by_cases h : r = k ∧ r < t.length
  · rw [if_pos h]
    obtain ⟨rfl, hr⟩ := h
    rw [List.getD_eq_getElem?_getD, List.getElem?_set]
    by_cases hc : c = j
    · subst hc
      by_cases hl : c < (t.row r).length
      · simp [hl, hr]
      · simp [hl, List.getD_eq_getElem?_getD]
    · simp [hc, List.getD_eq_getElem?_getD]
  · rw [if_neg h, if_neg (fun h' => h ⟨h'.1, h'.2.2.1⟩)]
theorem flp_flp (c : Nat) : flp (flp c) = c := by unfold flp; split <;> split <;> omega
theorem flp_lt2 {c g : Nat} (h : c < 2 * g) : flp c < 2 * g := by unfold flp; split <;> omega
/-- the state of an enumeration: the rows, the representatives, the queue, how many live, how many at most -/
structure St where
  t : Tb
  rep : List Nat
  q : List Nat
  live : Int
  most : Int
def St.rp (s : St) (x : Nat) : Nat := s.rep.getD x 0
def mergeS (s : St) (a b : Nat) : St :=
  if s.rp a = s.rp b then s else { s with rep := s.rep.map fun x => if x = max (s.rp a) (s.rp b) then min (s.rp a) (s.rp b) else x, q := s.q ++ [max (s.rp a) (s.rp b)], live := s.live - 1 }
def joinT (t : Tb) (r c d : Nat) : Tb := set2 (set2 t r c (d : Int)) d (flp c) (r : Int)
def cutT (t : Tb) (e c : Nat) : Tb := set2 (set2 t e c (-1)) (t.at e c).toNat (flp c) (-1)
def stepS (e c : Nat) (s : St) : St :=
  if s.t.at e c < 0 then s else
  if 0 ≤ (cutT s.t e c).at (s.rp e) c then mergeS { s with t := cutT s.t e c } ((cutT s.t e c).at (s.rp e) c).toNat (s.rp (s.t.at e c).toNat) else
  if 0 ≤ (cutT s.t e c).at (s.rp (s.t.at e c).toNat) (flp c) then mergeS { s with t := cutT s.t e c } ((cutT s.t e c).at (s.rp (s.t.at e c).toNat) (flp c)).toNat (s.rp e) else
  { s with t := joinT (cutT s.t e c) (s.rp e) c (s.rp (s.t.at e c).toNat) }
/-- what always holds of a state with 2 * g columns -/
structure Inv (g : Nat) (s : St) : Prop where
  len : ∀ r, r < s.t.length → (s.t.row r).length = 2 * g
  bd : ∀ r, r < s.t.length → ∀ c, c < 2 * g → -1 ≤ s.t.at r c ∧ s.t.at r c < s.t.length
  rl : s.rep.length = s.t.length
  rle : ∀ x, x < s.t.length → s.rp x ≤ x
  rid : ∀ x, x < s.t.length → s.rp (s.rp x) = s.rp x
  back : ∀ r, r < s.t.length → ∀ c, c < 2 * g → 0 ≤ s.t.at r c → s.t.at (s.t.at r c).toNat (flp c) = r
theorem Inv.rlt {g : Nat} {s : St} (h : Inv g s) {x : Nat} (hx : x < s.t.length) : s.rp x < s.t.length := Nat.lt_of_le_of_lt (h.rle x hx) hx
/-- an edge -/
def Edge (t : Tb) (x c y : Nat) : Prop := t.at x c = (y : Int)
/-- s goes on from s0: classes grow, edges stay, seen from the classes -/
structure Cov (g : Nat) (s0 s : St) : Prop where
  n : s.t.length = s0.t.length
  coarse : ∀ x, x < s0.t.length → s.rp (s0.rp x) = s.rp x
  edge : ∀ x c y, x < s0.t.length → c < 2 * g → Edge s0.t x c y → ∃ u v, u < s0.t.length ∧ v < s0.t.length ∧ Edge s.t u c v ∧ s.rp u = s.rp x ∧ s.rp v = s.rp y
theorem Edge.lt {g : Nat} {s : St} (h : Inv g s) {x c y : Nat} (hx : x < s.t.length) (hc : c < 2 * g) (he : Edge s.t x c y) : y < s.t.length := by
  have := (h.bd x hx c hc).2
  rw [he] at this
  omega
theorem Edge.back {g : Nat} {s : St} (h : Inv g s) {x c y : Nat} (hx : x < s.t.length) (hc : c < 2 * g) (he : Edge s.t x c y) : Edge s.t y (flp c) x := by
  have := h.back x hx c hc (by rw [he]; omega)
  rw [he] at this
  unfold Edge
  simpa using this
theorem Cov.refl {g : Nat} {s : St} (h : Inv g s) : Cov g s s := ⟨rfl, fun x hx => h.rid x hx, fun x _c y hx hc he => ⟨x, y, hx, he.lt h hx hc, he, rfl, rfl⟩⟩
theorem Cov.trans {g : Nat} {a b c : St} (ha : Inv g a) (h1 : Cov g a b) (h2 : Cov g b c) : Cov g a c := by
  have hsame : ∀ x y, x < a.t.length → y < a.t.length → b.rp x = b.rp y → c.rp x = c.rp y := fun x y hx hy e => by
    rw [← h2.coarse x (by rw [h1.n]; exact hx), ← h2.coarse y (by rw [h1.n]; exact hy), e]
  refine ⟨h2.n.trans h1.n, fun x hx => ?_, fun x k y hx hk he => ?_⟩
  · have hr := ha.rlt hx
    exact hsame _ _ hr hx (h1.coarse x hx)
  · have hy := he.lt ha hx hk
    obtain ⟨u, v, hu, hv, e1, e2, e3⟩ := h1.edge x k y hx hk he
    obtain ⟨u', v', hu', hv', f1, f2, f3⟩ := h2.edge u k v (by rw [h1.n]; exact hu) hk e1
    rw [h1.n] at hu' hv'
    exact ⟨u', v', hu', hv', f1, f2.trans (hsame _ _ hu hx e2), f3.trans (hsame _ _ hv hy e3)⟩
/-- merging -/
theorem rp_merge {g : Nat} {s : St} (h : Inv g s) {a b x : Nat} (_ha : a < s.t.length) (_hb : b < s.t.length) (hx : x < s.t.length) : (mergeS s a b).rp x = if s.rp x = max (s.rp a) (s.rp b) then min (s.rp a) (s.rp b) else s.rp x := by
  unfold mergeS
  split
  · rename_i e
    rw [e, Nat.max_self, Nat.min_self]
    split
    · rename_i e2; exact e2
    · rfl
  · unfold St.rp
    simp only
    have hl : x < s.rep.length := by rw [h.rl]; exact hx
    simp [List.getD_eq_getElem?_getD, hl]
theorem t_merge (s : St) (a b : Nat) : (mergeS s a b).t = s.t := by unfold mergeS; split <;> rfl
theorem Inv.merge {g : Nat} {s : St} (h : Inv g s) {a b : Nat} (ha : a < s.t.length) (hb : b < s.t.length) : Inv g (mergeS s a b) := by
  have ht := t_merge s a b
  have hra := h.rid a ha
  have hrb := h.rid b hb
  have hla := h.rle a ha
  have hlb := h.rle b hb
  refine ⟨by rw [ht]; exact h.len, by rw [ht]; exact h.bd, ?_, fun x hx => ?_, fun x hx => ?_, by rw [ht]; exact h.back⟩
  · rw [ht]
    unfold mergeS
    split
    · exact h.rl
    · simpa using h.rl
  · rw [ht] at hx
    rw [rp_merge h ha hb hx]
    have := h.rle x hx
    split <;> omega
  · rw [ht] at hx
    have hx1 := h.rlt hx
    have hr := h.rid x hx
    rw [rp_merge h ha hb hx]
    by_cases e : s.rp x = max (s.rp a) (s.rp b)
    · rw [if_pos e]
      have hmin : min (s.rp a) (s.rp b) < s.t.length := by omega
      have hmr : s.rp (min (s.rp a) (s.rp b)) = min (s.rp a) (s.rp b) := by
        rcases Nat.le_total (s.rp a) (s.rp b) with h' | h'
        · rw [Nat.min_eq_left h']; exact hra
        · rw [Nat.min_eq_right h']; exact hrb
      rw [rp_merge h ha hb hmin, hmr]
      split
      · rfl
      · rfl
    · rw [if_neg e, rp_merge h ha hb hx1, hr, if_neg e]
theorem Cov.merge {g : Nat} {s : St} (h : Inv g s) {a b : Nat} (ha : a < s.t.length) (hb : b < s.t.length) : Cov g s (mergeS s a b) ∧ (mergeS s a b).rp a = (mergeS s a b).rp b := by
  refine ⟨⟨by rw [t_merge], fun x hx => ?_, fun x c y hx hc he => ⟨x, y, hx, he.lt h hx hc, by rw [t_merge]; exact he, rfl, rfl⟩⟩, ?_⟩
  · rw [rp_merge h ha hb hx, rp_merge h ha hb (h.rlt hx), h.rid x hx]
  · rw [rp_merge h ha hb ha, rp_merge h ha hb hb]
    split <;> split <;> omega
end Go.Proofs.Ct
namespace Go.Proofs.Ct
section
variable {g : Nat} {s : St}
theorem at_cut (h : Inv g s) {e c : Nat} (he : e < s.t.length) (hc : c < 2 * g) (_hd : 0 ≤ s.t.at e c) (k j : Nat) :
    (cutT s.t e c).at k j = if (k = e ∧ j = c) ∨ (k = (s.t.at e c).toNat ∧ j = flp c) then -1 else s.t.at k j := by
  have hb := h.bd e he c hc
  have hdn : (s.t.at e c).toNat < s.t.length := by omega
  unfold cutT
  rw [at_set2, at_set2, length_set2, rowlen_set2, h.len _ he, h.len _ hdn]
  have hf := flp_lt2 hc
  by_cases h1 : (s.t.at e c).toNat = k ∧ flp c = j
  · rw [if_pos ⟨h1.1, h1.2, hdn, hf⟩, if_pos (.inr ⟨h1.1.symm, h1.2.symm⟩)]
  · rw [if_neg (fun h' => h1 ⟨h'.1, h'.2.1⟩)]
    by_cases h2 : e = k ∧ c = j
    · rw [if_pos ⟨h2.1, h2.2, he, hc⟩, if_pos (.inl ⟨h2.1.symm, h2.2.symm⟩)]
    · rw [if_neg (fun h' => h2 ⟨h'.1, h'.2.1⟩), if_neg]
      rintro (h' | h')
      · exact h2 ⟨h'.1.symm, h'.2.symm⟩
      · exact h1 ⟨h'.1.symm, h'.2.symm⟩
theorem length_cut (t : Tb) (e c : Nat) : (cutT t e c).length = t.length := by simp [cutT, length_set2]
theorem rowlen_cut (t : Tb) (e c k : Nat) : ((cutT t e c).row k).length = (t.row k).length := by simp [cutT, rowlen_set2]
theorem Inv.cut (h : Inv g s) {e c : Nat} (he : e < s.t.length) (hc : c < 2 * g) (hd : 0 ≤ s.t.at e c) : Inv g { s with t := cutT s.t e c } := by
  have hdn : (s.t.at e c).toNat < s.t.length := by have := h.bd e he c hc; omega
  have hbk := h.back e he c hc hd
  refine ⟨fun r hr => ?_, fun r hr k hk => ?_, ?_, fun x hx => h.rle x (by simpa [length_cut] using hx), fun x hx => h.rid x (by simpa [length_cut] using hx), fun r hr k hk h0 => ?_⟩
  · rw [rowlen_cut]; exact h.len r (by simpa [length_cut] using hr)
  · simp only [length_cut] at hr ⊢
    rw [at_cut h he hc hd]
    have := h.bd r hr k hk
    split
    · omega
    · exact this
  · simp only [length_cut]; exact h.rl
  · simp only [length_cut] at hr
    simp only at h0 ⊢
    rw [at_cut h he hc hd r k] at h0 ⊢
    by_cases hx : (r = e ∧ k = c) ∨ (r = (s.t.at e c).toNat ∧ k = flp c)
    · rw [if_pos hx] at h0; omega
    · rw [if_neg hx] at h0 ⊢
      rw [at_cut h he hc hd, if_neg]
      · exact h.back r hr k hk h0
      · have hb := h.back r hr k hk h0
        rintro (⟨h1, h2⟩ | ⟨h1, h2⟩)
        · rw [h1, h2] at hb
          exact hx (.inr ⟨by omega, by rw [← h2, flp_flp]⟩)
        · have hkc : k = c := by rw [← flp_flp k, h2, flp_flp]
          rw [h1, h2, hbk] at hb
          exact hx (.inl ⟨by omega, hkc⟩)
theorem at_join (h : Inv g s) {u v c : Nat} (hu : u < s.t.length) (hv : v < s.t.length) (hc : c < 2 * g) (k j : Nat) :
    (joinT s.t u c v).at k j = if k = v ∧ j = flp c then (u : Int) else if k = u ∧ j = c then (v : Int) else s.t.at k j := by
  have hf := flp_lt2 hc
  unfold joinT
  rw [at_set2, at_set2, length_set2, rowlen_set2, h.len _ hu, h.len _ hv]
  by_cases h1 : k = v ∧ j = flp c
  · rw [if_pos ⟨h1.1.symm, h1.2.symm, hv, hf⟩, if_pos h1]
  · rw [if_neg (fun h' => h1 ⟨h'.1.symm, h'.2.1.symm⟩), if_neg h1]
    by_cases h2 : k = u ∧ j = c
    · rw [if_pos ⟨h2.1.symm, h2.2.symm, hu, hc⟩, if_pos h2]
    · rw [if_neg (fun h' => h2 ⟨h'.1.symm, h'.2.1.symm⟩), if_neg h2]
theorem length_join (t : Tb) (u c v : Nat) : (joinT t u c v).length = t.length := by simp [joinT, length_set2]
end
end Go.Proofs.Ct
namespace Go.Proofs.Ct
theorem countP_flip {M : Nat} {p p' : Nat → Bool} (hM : p M = false) (hM' : p' M = true) (hx : ∀ x, x ≠ M → p' x = p x) : ∀ n, M < n → (List.range n).countP p' = (List.range n).countP p + 1
  | 0, h => absurd h (Nat.not_lt_zero _)
  | n + 1, h => by
    rw [List.range_succ, List.countP_append, List.countP_append]
    by_cases e : n = M
    · subst e
      have : (List.range n).countP p' = (List.range n).countP p := List.countP_congr fun x hx' => by
        rw [hx x (by simp at hx'; omega)]
      simp [this, hM, hM']
    · rw [countP_flip hM hM' hx n (by omega)]
      simp [hx n e]
      omega
/-- how many cosets are dead -/
def dc (s : St) : Nat := (List.range s.t.length).countP fun x => decide (s.rp x ≠ x)
/-- the dead with elements wait in the queue, from k (and there from the column c0) on -/
structure QI (g k c0 : Nat) (s : St) : Prop where
  dead : ∀ x, x < s.t.length → s.rp x ≠ x → ∀ c, c < 2 * g → 0 ≤ s.t.at x c → ∃ j, j < s.q.length ∧ s.q.getD j 0 = x ∧ (k < j ∨ (k = j ∧ c0 ≤ c))
  qd : ∀ j, j < s.q.length → s.q.getD j 0 < s.t.length ∧ s.rp (s.q.getD j 0) ≠ s.q.getD j 0
  cnt : s.q.length ≤ dc s
  lv : s.live + (dc s : Int) = s.t.length
/-- the dead are empty -/
structure Rest (g : Nat) (s : St) : Prop where
  inv : Inv g s
  dead : ∀ x, x < s.t.length → s.rp x ≠ x → ∀ c, c < 2 * g → s.t.at x c < 0
  lv : s.live + (dc s : Int) = s.t.length
section
variable {g : Nat} {s : St}
theorem merge_dead (h : Inv g s) {a b : Nat} (ha : a < s.t.length) (hb : b < s.t.length) (hne : s.rp a ≠ s.rp b) :
    max (s.rp a) (s.rp b) < s.t.length ∧ s.rp (max (s.rp a) (s.rp b)) = max (s.rp a) (s.rp b) ∧ (mergeS s a b).rp (max (s.rp a) (s.rp b)) ≠ max (s.rp a) (s.rp b) ∧ (∀ x, x < s.t.length → x ≠ max (s.rp a) (s.rp b) → ((mergeS s a b).rp x = x ↔ s.rp x = x)) ∧ (mergeS s a b).q = s.q ++ [max (s.rp a) (s.rp b)] ∧ (mergeS s a b).live = s.live - 1 ∧ dc (mergeS s a b) = dc s + 1 := by
  have hra := h.rid a ha
  have hrb := h.rid b hb
  have hla := h.rlt ha
  have hlb := h.rlt hb
  have hM : s.rp (max (s.rp a) (s.rp b)) = max (s.rp a) (s.rp b) := by
    rcases Nat.le_total (s.rp a) (s.rp b) with h' | h'
    · rw [Nat.max_eq_right h']; exact hrb
    · rw [Nat.max_eq_left h']; exact hra
  have hMl : max (s.rp a) (s.rp b) < s.t.length := by omega
  have h3 : (mergeS s a b).rp (max (s.rp a) (s.rp b)) ≠ max (s.rp a) (s.rp b) := by
    rw [rp_merge h ha hb hMl, hM, if_pos rfl]
    omega
  have h4 : ∀ x, x < s.t.length → x ≠ max (s.rp a) (s.rp b) → ((mergeS s a b).rp x = x ↔ s.rp x = x) := fun x hx hxM => by
    rw [rp_merge h ha hb hx]
    have hle := h.rle x hx
    split
    · rename_i e
      constructor
      · intro h'; omega
      · intro h'; omega
    · rfl
  refine ⟨hMl, hM, h3, h4, by unfold mergeS; rw [if_neg hne], by unfold mergeS; rw [if_neg hne], ?_⟩
  unfold dc
  rw [t_merge]
  have hcg : (List.range s.t.length).countP (fun x => decide ((mergeS s a b).rp x ≠ x)) = (List.range s.t.length).countP (fun x => if x = max (s.rp a) (s.rp b) then true else decide (s.rp x ≠ x)) := List.countP_congr fun x hx => by
    have hx' : x < s.t.length := by simpa using hx
    by_cases e : x = max (s.rp a) (s.rp b)
    · rw [if_pos e, e]; simp only [decide_eq_true_eq]; exact ⟨fun _ => trivial, fun _ => h3⟩
    · rw [if_neg e]; simp only [decide_eq_true_eq]; exact not_congr (h4 x hx' e)
  rw [hcg]
  refine countP_flip (M := max (s.rp a) (s.rp b)) (by simpa using hM) (by simp) (fun x hx => by rw [if_neg hx]) _ hMl
theorem QI.merge (h : Inv g s) {k c0 : Nat} (hq : QI g k c0 s) (hk : k < s.q.length ∨ (k = s.q.length ∧ c0 = 0)) {a b : Nat} (ha : a < s.t.length) (hb : b < s.t.length) : QI g k c0 (mergeS s a b) := by
  by_cases hne : s.rp a = s.rp b
  · unfold mergeS; rw [if_pos hne]; exact hq
  · obtain ⟨m1, m2, m3, m4, m5, m6, m7⟩ := merge_dead h ha hb hne
    have ht := t_merge s a b
    have hl : (mergeS s a b).q.length = s.q.length + 1 := by rw [m5]; simp
    have hold : ∀ j, j < s.q.length → (mergeS s a b).q.getD j 0 = s.q.getD j 0 := fun j hj => by rw [m5]; simp [List.getD_eq_getElem?_getD, List.getElem?_append_left hj]
    have hnew : (mergeS s a b).q.getD s.q.length 0 = max (s.rp a) (s.rp b) := by rw [m5]; simp [List.getD_eq_getElem?_getD]
    refine ⟨fun x hx hd c hc h0 => ?_, fun j hj => ?_, by rw [hl, m7]; have := hq.cnt; omega, by rw [m6, m7, ht]; have := hq.lv; omega⟩
    · rw [ht] at hx h0
      by_cases e : x = max (s.rp a) (s.rp b)
      · exact ⟨s.q.length, by omega, by rw [hnew, e], by rcases hk with hk | ⟨hk, h0'⟩ <;> omega⟩
      · obtain ⟨j, h1, h2, h3⟩ := hq.dead x hx (fun h' => hd ((m4 x hx e).2 h')) c hc h0
        exact ⟨j, by omega, by rw [hold j h1]; exact h2, h3⟩
    · rw [ht]
      rcases Nat.lt_or_ge j s.q.length with h1 | h1
      · rw [hold j h1]
        obtain ⟨h2, h3⟩ := hq.qd j h1
        refine ⟨h2, fun h' => ?_⟩
        by_cases e : s.q.getD j 0 = max (s.rp a) (s.rp b)
        · rw [e] at h3; exact h3 m2
        · exact h3 ((m4 _ h2 e).1 h')
      · obtain rfl : j = s.q.length := by omega
        rw [hnew]
        exact ⟨m1, m3⟩
end
end Go.Proofs.Ct
