/- The reference's tietze.Length, once, lower; The reference's tietze.Eliminate: where it refuses; CosetMaps: the image of a point under a word (f65); The memory of CosetConjugates: the words of the conjugate are laid; CosetMaps: a permutation out of numbers (f63): its two growing lists; CosetMaps: the map of numbers to lists (type 139) in pres.Satisfied; CosetMaps: the inverse of a permutation (f113 of pres); CosetMaps: the map of the letters' lists in pres.Satisfied; Any number of permutations: how letters act on them; the map of the letters' lists in pres.Satisfied; The law's image of a word of permutations; TietzeSame: the presentation in its box as its relators are joined. -/
import Derived.Test.YtmmbmhjdnlmedaaGreatLoCS21
import Derived.Test.YtmmbmhjdnlmedaaGreatLoCS11
import Derived.Test.YtmmbmhjdnlmedaaGreatLoCS12
import Derived.Test.YtmmbmhjdnlmedaaGreatLoCS15
import Derived.Test.YtmmbmhjdnlmedaaGreatLoCS13
import Derived.Test.YtmmbmhjdnlmedaaGreatLoCS6
import Derived.Test.YtmmbmhjdnlmedaaGreatLoCS4
import Derived.Test.YtmmbmhjdnlmedaaGreatLoCS2
import Derived.Test.YtmmbmhjdnlmedaaGreatLoCS17
import Derived.BigQuiet
import Derived.Deep.CutBlock
import Derived.Deep.CutRange
import Derived.Test.YtmmbmhjdnlmedaaGreatLoCS20
namespace Go.Proofs
open Go.RowKit Go.Shelf Go.Lib Go.Sort Go.Proofs.Ct Go.Proofs.Tz
set_option maxRecDepth 100000 in
set_option maxHeartbeats 1000000 in
theorem length12_any (w : World) (v : Value) (g : Int) (l : List (List Int)) (hv : Tab w v l) (hl : lenL l ≤ 1000000000000) : Calls Tryz.prog 12 #[.agg #[.int .i64 g, v]] w fun e w' => e = .returned (.int .i64 (lenL l : Int)) ∧ Below w.heap.size w w' := by
  obtain ⟨A, c, rfl, h1, h2, h3⟩ := hv.open_
  have HV := Lib.hid hv
  have hl0 : (0 : Int) ≤ (l.length : Int) := Int.natCast_nonneg _
  have HB : Hid (Below w.heap.size w (w.alloc (.cells #[.int .i64 g, .slice A l.length c] 24))) := Lib.hid ((Below.refl _ _).alloc (Nat.le_refl _) _)
  have hnew := heap_alloc_new w (.cells #[.int .i64 g, .slice A l.length c] 24)
  have hc := (cell_of2 hnew).2
  clear hnew h3 hv
  generalize hw1 : w.alloc (.cells #[.int .i64 g, .slice A l.length c] 24) = w1 at *
  have HT := Lib.hid (kept_tab.below HV.out HB.out)
  have hlw : (lenL l : Int) ≤ 1000000000000 := by omega
  go_enter Tryz.func12, Tryz.ntmps12
  go_wp2_with fail
  try rw [hw1]
  clear hw1
  go_loopw [3, 4] (fun s z wr => ∃ k : Nat, k ≤ l.length ∧ z = .int .i64 k ∧ s = .int .i64 (lenTo l k : Int) ∧ ∃ q, wr = w1.drewN q) (fun _ z _ => l.length - (intOf z).toNat)
  case atStart => exact ⟨0, Nat.zero_le _, rfl, rfl, 0, rfl⟩
  case round =>
    obtain ⟨k, hk, rfl, rfl, q, rfl⟩ := hrel
    have hk0 : (0 : Int) ≤ (k : Int) := Int.natCast_nonneg _
    have hc' : (w1.drewN q).cell? ⟨w.heap.size, 1, none⟩ = some (.slice A l.length c) := hc
    by_cases hlt : k < l.length
    · have hlt' : (k : Int) < (l.length : Int) := by omega
      obtain ⟨A', c', e', t1, t2, t3⟩ := HT.out.open_
      injection e' with e1 _ e3
      subst e1 e3
      obtain ⟨b, o, rfl, hcc⟩ := t3 (by omega)
      obtain ⟨u, hu, hI⟩ := hcc k hlt
      obtain ⟨Au, cu, rfl, -⟩ := hI.open_
      have hu' : (w1.drewN q).cell? ⟨b, o + k, none⟩ = some (.slice Au (l.getD k []).length cu) := hu
      have hs := lenTo_succ l hlt
      have hle := lenTo_le l (k + 1)
      have HS := Lib.hid hs
      have h5 : (0 : Int) ≤ (lenTo l k : Int) := Int.natCast_nonneg _
      have h6 : (0 : Int) ≤ ((l.getD k []).length : Int) := Int.natCast_nonneg _
      have h7 : (lenTo l k : Int) + ((l.getD k []).length : Int) ≤ 1000000000000 := by omega
      clear hcc hI t1 t2 t3 hs hle
      generalize (l.getD k []).length = n at *
      generalize hm : lenTo l k = m at *
      have HM := Lib.hid hm
      clear hm
      go_wp2_with fail
      go_roundw
      case rel => exact ⟨k + 1, by omega, by go_num, congrArg (Value.int .i64) (by rw [HS.out]; omega), (by first | exact ⟨_, rfl⟩ | exact ex_drewN)⟩
      case measure => simp [intOf]; omega
    · obtain rfl : k = l.length := by omega
      have HE : Hid (lenTo l l.length = lenL l) := Lib.hid (by unfold lenTo; rw [List.take_length])
      go_wp2_with fail
      go_ret
      exact ⟨by rw [HE.out]; rfl, below_drewN HB.out _⟩
theorem isG_iff {g x : Int} : isG g x = true ↔ x = g ∨ x = -g := by unfold isG; simp
/-- where a generator stood so far -/
def OnceS (x : List Int) (g : Int) (k : Nat) (at_ : Int) : Prop := (at_ = -1 ∧ ∀ i, i < k → isG g (x.getD i 0) = false) ∨ ∃ j : Nat, at_ = (j : Int) ∧ j < k ∧ isG g (x.getD j 0) = true ∧ ∀ i, i < k → i ≠ j → isG g (x.getD i 0) = false
theorem any_drop {x : List Int} {p : Int → Bool} {k : Nat} : (x.drop k).any p = true ↔ ∃ i, k ≤ i ∧ i < x.length ∧ p (x.getD i 0) = true := by
  rw [List.any_eq_true]
  constructor
  · rintro ⟨a, ha, hp⟩
    obtain ⟨i, hi, rfl⟩ := List.getElem_of_mem ha
    rw [List.length_drop] at hi
    refine ⟨k + i, by omega, by omega, ?_⟩
    rw [List.getElem_drop] at hp
    rw [List.getD_eq_getElem?_getD, List.getElem?_eq_getElem (by omega)]
    exact hp
  · rintro ⟨i, h1, h2, hp⟩
    refine ⟨x.getD i 0, ?_, hp⟩
    rw [List.getD_eq_getElem?_getD, List.getElem?_eq_getElem h2]
    exact List.mem_drop_iff_getElem.2 ⟨i - k, by omega, by simp [show k + (i - k) = i by omega]⟩
theorem onceI_two {x : List Int} {g : Int} {j k : Nat} (hj : j < k) (hk : k < x.length) (h1 : isG g (x.getD j 0) = true) (h2 : isG g (x.getD k 0) = true) (h3 : ∀ i, i < k → i ≠ j → isG g (x.getD i 0) = false) : onceI x g = -1 := by
  have hO := onceW_at (x := x) (g := g) (k := j) (by omega) h1 (fun i hij => h3 i (by omega) (by omega))
  unfold onceI
  rw [hO, if_pos (any_drop.2 ⟨k, by omega, hk, h2⟩)]
theorem onceI_end {x : List Int} {g : Int} {at_ : Int} (h : OnceS x g x.length at_) : onceI x g = at_ := by
  rcases h with ⟨rfl, h⟩ | ⟨j, rfl, hj, h1, h2⟩
  · unfold onceI
    rw [onceW_no h]
  · have hO := onceW_at (x := x) (g := g) (k := j) hj h1 (fun i hij => h2 i (by omega) (by omega))
    unfold onceI
    rw [hO, if_neg]
    rw [any_drop]
    rintro ⟨i, h3, h4, h5⟩
    rw [h2 i h4 (by omega)] at h5
    cases h5
set_option maxRecDepth 100000 in
set_option maxHeartbeats 1000000 in
theorem once34_any (w : World) (u : Value) (x : List Int) (g : Int) (hg : -1000000 ≤ g ∧ g ≤ 1000000) (hu : IntsAt w u x) : Calls Tryz.prog 34 #[u, .int .i64 g] w fun e w' => e = .returned (.int .i64 (onceI x g)) ∧ w = w' := by
  obtain ⟨A, c, rfl, h1, h2, hc⟩ := hu.open_
  have HC := Lib.hid hc
  have hx0 : (0 : Int) ≤ (x.length : Int) := Int.natCast_nonneg _
  have hx1 : (x.length : Int) ≤ 9223372036854775807 := by omega
  have hgw : IntKind.i64.wrap (-g) = -g := by simp [IntKind.wrap, IntKind.bits, IntKind.signed]; omega
  have HEND : Hid (∀ a, OnceS x g x.length a → onceI x g = a) := Lib.hid fun a h => onceI_end h
  have HTWO : Hid (∀ j k : Nat, j < k → k < x.length → isG g (x.getD j 0) = true → isG g (x.getD k 0) = true → (∀ i, i < k → i ≠ j → isG g (x.getD i 0) = false) → onceI x g = -1) := Lib.hid fun j k a b c d e => onceI_two a b c d e
  generalize onceI x g = R at *
  clear hu hc h1 h2
  go_enter Tryz.func34, Tryz.ntmps34
  go_wp2_with fail
  go_loopw [4, 5, 6] (fun _ va z wr => ∃ (k : Nat) (a : Int), k ≤ x.length ∧ z = .int .i64 k ∧ va = .int .i64 a ∧ Hid (OnceS x g k a) ∧ wr = w) (fun _ _ z _ => x.length - (intOf z).toNat)
  case atStart => exact ⟨0, -1, Nat.zero_le _, rfl, rfl, Lib.hid (.inl ⟨rfl, fun i hi => absurd hi (Nat.not_lt_zero i)⟩), rfl⟩
  case round =>
    obtain ⟨k, a, hk, rfl, rfl, HS, hwr⟩ := hrel
    have hwr' := hwr.symm
    clear hwr
    subst hwr'
    have hk0 : (0 : Int) ≤ (k : Int) := Int.natCast_nonneg _
    by_cases hlt : k < x.length
    · have hlt' : (k : Int) < (x.length : Int) := by omega
      obtain ⟨b, o, rfl, hcc⟩ := HC.out (by omega)
      have hcx := hcc k hlt
      have HG : Hid (isG g (x.getD k 0) = true ↔ x.getD k 0 = g ∨ x.getD k 0 = -g) := Lib.hid isG_iff
      have HT2 : Hid (∀ j : Nat, j < k → isG g (x.getD j 0) = true → isG g (x.getD k 0) = true → (∀ i, i < k → i ≠ j → isG g (x.getD i 0) = false) → R = -1) := Lib.hid fun j a b c d => HTWO.out j k a hlt b c d
      have HX : Hid (∀ i, i < k + 1 → i = k ∨ i < k) := Lib.hid fun i hi => by omega
      generalize hz : x.getD k 0 = z at *
      have HZ := Lib.hid hz
      clear hcc hz
      by_cases hm : z = g ∨ z = -g
      · have hgt : isG g z = true := HG.out.2 hm
        have hne : (z != g) = false ∨ ((z != g) = true ∧ (z != -g) = false) := by
          rcases hm with rfl | rfl
          · exact .inl (by simp)
          · by_cases h : -g = g
            · exact .inl (by rw [h]; simp)
            · exact .inr ⟨by simpa using h, by simp⟩
        by_cases ha : 0 ≤ a
        · have HR : Hid (R = -1) := Lib.hid (by
            rcases HS.out with ⟨h, -⟩ | ⟨j, -, h1, h2, h3⟩
            · omega
            · exact HT2.out j h1 h2 hgt h3)
          have da : decide (0 ≤ a) = true := decide_eq_true ha
          clear hm HG HT2 hgt HS
          rcases hne with e1 | ⟨e1, e2⟩
          · go_wp2_with fail
            go_ret
            exact ⟨ret_int HR.out.symm, rfl⟩
          · go_wp2_with fail
            go_ret
            exact ⟨ret_int HR.out.symm, rfl⟩
        · have da : decide (0 ≤ a) = false := decide_eq_false ha
          have HN : Hid (OnceS x g (k + 1) (k : Int)) := Lib.hid (.inr ⟨k, rfl, by omega, by rw [HZ.out]; exact hgt, fun i hi hne => by
            rcases HS.out with ⟨-, h⟩ | ⟨j, h, -⟩
            · exact h i (by omega)
            · omega⟩)
          clear hm HG HT2 hgt HS ha
          rcases hne with e1 | ⟨e1, e2⟩
          · go_wp2_with fail
            go_roundw
            case rel => exact ⟨k + 1, k, by omega, by go_num, rfl, HN, by first | trivial | rfl⟩
            case measure => simp [intOf]; omega
          · go_wp2_with fail
            go_roundw
            case rel => exact ⟨k + 1, k, by omega, by go_num, rfl, HN, by first | trivial | rfl⟩
            case measure => simp [intOf]; omega
      · have e1 : (z != g) = true := by simpa using fun h => hm (.inl h)
        have e2 : (z != -g) = true := by simpa using fun h => hm (.inr h)
        have hgf : isG g z = false := by
          cases h : isG g z with
          | false => rfl
          | true => exact absurd (HG.out.1 h) hm
        have HN : Hid (OnceS x g (k + 1) a) := Lib.hid (by
          rcases HS.out with ⟨h1, h⟩ | ⟨j, h, h1, h2, h3⟩
          · refine .inl ⟨h1, fun i hi => ?_⟩
            rcases HX.out i hi with rfl | hi'
            · rw [HZ.out]; exact hgf
            · exact h i hi'
          · refine .inr ⟨j, h, by omega, h2, fun i hi hne => ?_⟩
            rcases HX.out i hi with rfl | hi'
            · rw [HZ.out]; exact hgf
            · exact h3 i hi' hne)
        clear hm HG HT2 hgf HS
        go_wp2_with fail
        go_roundw
        case rel => exact ⟨k + 1, a, by omega, by go_num, rfl, HN, by first | trivial | rfl⟩
        case measure => simp [intOf]; omega
    · obtain rfl : k = x.length := by omega
      have HR := Lib.hid (HEND.out a HS.out)
      go_wp2_with fail
      go_ret
      exact ⟨ret_int HR.out.symm, rfl⟩
theorem lowW_take (g : Int) (x : List Int) {k : Nat} (hk : k < x.length) : lowW g (x.take (k + 1)) = lowW g (x.take k) ++ [lowI g (x.getD k 0)] := by
  unfold lowW
  rw [List.take_succ_eq_append_getElem hk, List.map_append]
  simp [List.getD_eq_getElem?_getD, hk]
set_option maxRecDepth 100000 in
set_option maxHeartbeats 1000000 in
theorem lower37_any (w : World) (u : Value) (x : List Int) (g : Int) (hg : 0 ≤ g ∧ g ≤ 1000000) (hu : IntsAt w u x) (hm : ∀ z ∈ x, Mild z) (hl : x.length ≤ 1000000) : Calls Tryz.prog 37 #[u, .int .i64 g] w (OwnPost (lowW g x) w) := by
  have HU := Lib.hid hu
  have HM := Lib.hid fun k => Mild.at_ hm k
  obtain ⟨A0, c0, rfl, -⟩ := hu.open_
  have hx0 : (0 : Int) ≤ (x.length : Int) := Int.natCast_nonneg _
  have hx1 : (x.length : Int) ≤ 1000000 := by omega
  have hgw : IntKind.i64.wrap (-g) = -g := by simp [IntKind.wrap, IntKind.bits, IntKind.signed]; omega
  have HLL : Hid (∀ k, k ≤ x.length → (lowW g (x.take k)).length = k) := Lib.hid fun k hk => by unfold lowW; rw [List.length_map, List.length_take]; omega
  have HTL : Hid (lowW g (x.take x.length) = lowW g x) := Lib.hid (by rw [List.take_length])
  clear hu hm
  unfold OwnPost
  go_enter Tryz.func37, Tryz.ntmps37
  go_wp2_with fail
  go_loopw [5, 6, 7] (fun vo i _ wr => ∃ (k : Nat) (A : Option Addr) (c : Nat), k ≤ x.length ∧ i = .int .i64 k ∧ vo = .slice A k c ∧ Hid (OwnI w.heap.size wr (.slice A k c) (lowW g (x.take k))) ∧ Hid (Below w.heap.size w wr)) (fun _ i _ _ => x.length - (intOf i).toNat)
  case atStart => exact ⟨0, none, 0, Nat.zero_le _, rfl, rfl, Lib.hid (World.ownsRow_nil _ _ _ _), Lib.hid (Below.refl _ _)⟩
  case round =>
    obtain ⟨k, A, c, hk, rfl, rfl, HO, HB⟩ := hrel
    have hk0 : (0 : Int) ≤ (k : Int) := Int.natCast_nonneg _
    by_cases hlt : k < x.length
    · have hlt' : (k : Int) < (x.length : Int) := by omega
      obtain ⟨A1, c1, e1, -, -, hcc0⟩ := (HU.out.below HB.out).open_
      injection e1 with e1 _ e3
      subst e1 e3
      obtain ⟨b, o, rfl, hcc⟩ := hcc0 (by omega)
      have hcx := hcc k hlt
      obtain ⟨A9, c9, w9, hr9, hP9, hg9, -⟩ := push_int 36 36 Tryz.underlying36 wr w.heap.size _ _ HO.out (lowI g (x.getD k 0)) (by rw [HLL.out k hk]; omega) HB.out.size
      rw [HLL.out k hk, ← lowW_take g x hlt] at hP9
      rw [HLL.out k hk] at hr9
      have HR9 := Lib.hid hr9
      have HP9 := Lib.hid hP9
      have HB9 : Hid (Below w.heap.size w w9) := Lib.hid (HB.out.grown hg9 HB.out.size fun r hr => (owns_block HO.out r hr).1)
      have hz := HM.out k
      have HLI : Hid (lowI g (x.getD k 0) = if x.getD k 0 > g then x.getD k 0 - 1 else if x.getD k 0 < -g then x.getD k 0 + 1 else x.getD k 0) := Lib.hid rfl
      unfold Mild at hz
      clear hr9 hP9 hg9 hcc hcc0 HO HB
      generalize x.getD k 0 = z at *
      by_cases h1 : g < z
      · have HE : Hid (lowI g z = z - 1) := Lib.hid (by rw [HLI.out, if_pos h1])
        have h2 : ¬ z - 1 < -g := by omega
        rw [HE.out] at HR9
        clear HLI
        go_wp2_with ((with_reducible refine wpList_sel 32 ?_); refine wpList_val rfl (r_app (.tmp 29) (.tmp 31) 36 rfl rfl rfl HR9.out) ?_)
        go_roundw
        case rel => exact ⟨k + 1, A9, c9, by omega, by go_num, rfl, HP9, HB9⟩
        case measure => simp [intOf]; omega
      · by_cases h2 : z < -g
        · have HE : Hid (lowI g z = z + 1) := Lib.hid (by rw [HLI.out, if_neg h1, if_pos h2])
          rw [HE.out] at HR9
          clear HLI
          go_wp2_with ((with_reducible refine wpList_sel 32 ?_); refine wpList_val rfl (r_app (.tmp 29) (.tmp 31) 36 rfl rfl rfl HR9.out) ?_)
          go_roundw
          case rel => exact ⟨k + 1, A9, c9, by omega, by go_num, rfl, HP9, HB9⟩
          case measure => simp [intOf]; omega
        · have HE : Hid (lowI g z = z) := Lib.hid (by rw [HLI.out, if_neg h1, if_neg h2])
          rw [HE.out] at HR9
          clear HLI
          go_wp2_with ((with_reducible refine wpList_sel 32 ?_); refine wpList_val rfl (r_app (.tmp 29) (.tmp 31) 36 rfl rfl rfl HR9.out) ?_)
          go_roundw
          case rel => exact ⟨k + 1, A9, c9, by omega, by go_num, rfl, HP9, HB9⟩
          case measure => simp [intOf]; omega
    · obtain rfl : k = x.length := by omega
      rw [HTL.out] at HO
      have HLE : Hid ((lowW g x).length = x.length) := Lib.hid (by unfold lowW; rw [List.length_map])
      go_wp2_with fail
      go_ret
      exact ⟨A, c, by rw [HLE.out]; rfl, by rw [HLE.out]; exact HO.out, HB.out⟩
end Go.Proofs
namespace Go.Proofs
open Go.RowKit Go.Shelf Go.Lib Go.Sort Go.Proofs.Ct Go.Proofs.Tz Go.Maps
theorem call36 (args : Array Value) (w : World) : (callFunc 36 args).run Tryz.prog w = .ok (.enter 36 args) w := enters_of Tryz.func36 (by kernel_rfl) rfl args w
theorem call35 (args : Array Value) (w : World) : (callFunc 35 args).run Tryz.prog w = .ok (.enter 35 args) w := enters_of Tryz.func35 (by kernel_rfl) rfl args w
theorem once34_b (w : World) (u : Value) (x : List Int) (g : Int) (hg : -1000000 ≤ g ∧ g ≤ 1000000) (hu : IntsAt w u x) : Calls Tryz.prog 34 #[u, .int .i64 g] w fun e w' => e = .returned (.int .i64 (onceI x g)) ∧ Below w.heap.size w w' :=
  (once34_any w u x g hg hu).mono fun e w' ⟨h1, h2⟩ => ⟨h1, by subst h2; exact Below.refl _ _⟩
/-- what an elimination answers -/
def RElimPost (n : Nat) (rels : List (List Int)) (rel gen : Nat) (w : World) (e : Ending) (w' : World) : Prop :=
  (match elimE n rels rel gen with
  | .inr x => e = .returned (.tuple #[.agg #[.int .i64 0, .slice none 0 0], .slice none 0 0, .int .i64 x])
  | .inl (l, im) => ∃ A c B d, e = .returned (.tuple #[.agg #[.int .i64 ((n : Int) - 1), .slice A l.length c], .slice B im.length d, .int .i64 0]) ∧ TabI w.heap.size w'.heap.size w' (.slice A l.length c) l ∧ TabI w.heap.size w'.heap.size w' (.slice B im.length d) im) ∧ Below w.heap.size w w'
set_option maxRecDepth 100000 in
set_option maxHeartbeats 4000000 in
/-- no elimination: the generator does not occur once, or is the only one -/
theorem elim10_no (w : World) (vr : Value) (n : Nat) (rels : List (List Int)) (rel gen : Nat) (hR : Tab w vr rels) (hsm : ∀ j, (rels.getD j []).length ≤ 8000000) (he : presE n rels = 0) (hr : rel < rels.length) (hg : 1 ≤ gen ∧ gen ≤ n) (hno : n = 1 ∨ onceW (rels.getD rel []) gen = none) : Calls Tryz.prog 10 #[.agg #[.int .i64 (n : Int), vr], .int .i64 (rel : Int), .int .i64 (gen : Int)] w (RElimPost n rels rel gen w) := by
  obtain ⟨Ar, cr, rfl⟩ := Tab.form hR
  have H19 : Hid (∀ W, Tab W (.slice Ar rels.length cr) rels → Calls Tryz.prog 33 #[.agg #[.int .i64 (n : Int), .slice Ar rels.length cr]] W fun e w' => (∃ y, e = .returned (.tuple #[.int .i64 0, .int .i64 y])) ∧ Below W.heap.size W w') := Lib.hid fun W h => by
    have := pcheck79_any W _ (n : Int) rels h hsm
    unfold PresPost at this
    rw [he] at this
    exact this
  obtain ⟨gn, hgn, hg1, hg2, hln, -⟩ := presE_good he
  obtain rfl : n = gn := by omega
  clear hgn
  have hE : elimE n rels rel gen = .inr 13 := by
    unfold elimE
    cases ho : onceW (rels.getD rel []) gen with
    | none => rfl
    | some k =>
      rcases hno with h | h
      · simp [h]
      · rw [ho] at h; cases h
  have HE := Lib.hid hE
  have HN := Lib.hid hno
  have HBN := Lib.hid (ElBox.new w n Ar cr rels.length)
  have HRR := Lib.hid hR
  have hr0 : (0 : Int) ≤ (rel : Int) := Int.natCast_nonneg _
  have hrl : (rel : Int) < (rels.length : Int) := by omega
  have hrd : decide ((rel : Int) < 0) = false := decide_eq_false (by omega)
  have hrd2 : decide ((rels.length : Int) ≤ (rel : Int)) = false := decide_eq_false (by omega)
  have hgd : decide ((gen : Int) < 1) = false := decide_eq_false (by omega)
  have hgd2 : decide ((n : Int) < (gen : Int)) = false := decide_eq_false (by omega)
  clear hR he hE hno
  by_cases hn1 : n = 1
  · have hbn : ((n : Int) == 1) = true := by rw [hn1]; rfl
    have HOI := Lib.hid hn1
    clear hn1
    go_enter Tryz.func10, Tryz.ntmps10
    go_wp2_with ((with_reducible refine wpList_sel 6 ?_); refine wpList_val rfl (r_alloc40 rfl) ?_)
    generalize hw0 : (w.alloc (.cells #[.int .i64 (n : Int), .slice Ar rels.length cr] 24)).alloc (.cells zero40 24) = w0 at *
    have HBX := Lib.hid fun W (hb : Below w0.heap.size w0 W) => HBN.out.at_ hb
    have HB0 := Lib.hid HBN.out.below
    have HBP := Lib.hid HBN.out.arg
    have HR0 := Lib.hid (kept_tab.below HRR.out HB0.out)
    clear hw0 HRR
    go_wp2_with (first
      | ((with_reducible refine wpList_sel 21 ?_); refine wpList_val rfl (r_loadAt 24 (.tmp 3) _ _ rfl rfl (load40 HBP.out)) ?_)
      | (go_at_call 33; (with_reducible refine (H19.out w0 HR0.out).mono ?_); rintro e w1 ⟨⟨y, rfl⟩, hb⟩
         have HB1 := Lib.hid hb
         obtain ⟨⟨p1, q1⟩, x1, x2⟩ := HBX.out _ hb
         have hR1 := kept_tab.below HR0.out hb
         obtain ⟨A', c', e', t1, t2, t3⟩ := hR1.open_
         injection e' with e1 _ e3
         subst e1 e3
         obtain ⟨b, o, rfl, hcc⟩ := t3 (by omega)
         obtain ⟨u, hu, hI⟩ := hcc rel hr
         obtain ⟨Au, cu, rfl, -⟩ := hI.open_
         have HO := Lib.hid (once34_b w1 _ _ (gen : Int) (by omega) hI)
         have HX2 := Lib.hid x2
         clear x1 x2 hb hR1 t1 t2 t3 hcc hI
         generalize (rels.getD rel []).length = lx at *)
      | (go_at_call 34
         refine HO.out.mono ?_
         rintro e w2 ⟨rfl, hb2⟩
         have HB2 := Lib.hid (HB1.out.trans (hb2.mono HB1.out.size))
         obtain ⟨⟨p2, q2⟩, x1, x2⟩ := HBX.out _ HB2.out
         have HX3 := Lib.hid x2
         clear p1 q1 x1 x2 hu hb2 HO
         first | rw [HOI.out] | generalize onceI (rels.getD rel []) gen = oi at *)
      | ((with_reducible refine wpList_sel 64 ?_); refine wpList_val rfl (r_build40 rfl) ?_; refine wpList_skip rfl (r_store40 (.tmp 6) (.tmp 64) rfl (w.heap.size + 1) zero40 zero40 rfl rfl HX3.out rfl rfl zero40_one) ?_))
    try simp only [Exit.inBlock, Exit.then]
    exact bodyPost_ret (results_27 (p := 6) (q := 7) (r := 8) rfl _ _ (w.heap.size + 1) zero40 (.slice none 0 0) (.int .i64 13) rfl rfl rfl (setRow_heap _ _ _ _ _ _ HX3.out) rfl) rfl ⟨by rw [HE.out]; rfl, below_setRow (HB0.out.trans (HB2.out.mono HB0.out.size)) (Nat.le_succ _) _⟩
  · have hbn : ((n : Int) == 1) = false := beq_eq_false_iff_ne.2 (by omega)
    have HOI : Hid (onceI (rels.getD rel []) gen = -1) := Lib.hid (by
      have h := HN.out.resolve_left hn1
      unfold onceI
      rw [h])
    clear hn1
    go_enter Tryz.func10, Tryz.ntmps10
    go_wp2_with ((with_reducible refine wpList_sel 6 ?_); refine wpList_val rfl (r_alloc40 rfl) ?_)
    generalize hw0 : (w.alloc (.cells #[.int .i64 (n : Int), .slice Ar rels.length cr] 24)).alloc (.cells zero40 24) = w0 at *
    have HBX := Lib.hid fun W (hb : Below w0.heap.size w0 W) => HBN.out.at_ hb
    have HB0 := Lib.hid HBN.out.below
    have HBP := Lib.hid HBN.out.arg
    have HR0 := Lib.hid (kept_tab.below HRR.out HB0.out)
    clear hw0 HRR
    go_wp2_with (first
      | ((with_reducible refine wpList_sel 21 ?_); refine wpList_val rfl (r_loadAt 24 (.tmp 3) _ _ rfl rfl (load40 HBP.out)) ?_)
      | (go_at_call 33; (with_reducible refine (H19.out w0 HR0.out).mono ?_); rintro e w1 ⟨⟨y, rfl⟩, hb⟩
         have HB1 := Lib.hid hb
         obtain ⟨⟨p1, q1⟩, x1, x2⟩ := HBX.out _ hb
         have hR1 := kept_tab.below HR0.out hb
         obtain ⟨A', c', e', t1, t2, t3⟩ := hR1.open_
         injection e' with e1 _ e3
         subst e1 e3
         obtain ⟨b, o, rfl, hcc⟩ := t3 (by omega)
         obtain ⟨u, hu, hI⟩ := hcc rel hr
         obtain ⟨Au, cu, rfl, -⟩ := hI.open_
         have HO := Lib.hid (once34_b w1 _ _ (gen : Int) (by omega) hI)
         have HX2 := Lib.hid x2
         clear x1 x2 hb hR1 t1 t2 t3 hcc hI
         generalize (rels.getD rel []).length = lx at *)
      | (go_at_call 34
         refine HO.out.mono ?_
         rintro e w2 ⟨rfl, hb2⟩
         have HB2 := Lib.hid (HB1.out.trans (hb2.mono HB1.out.size))
         obtain ⟨⟨p2, q2⟩, x1, x2⟩ := HBX.out _ HB2.out
         have HX3 := Lib.hid x2
         clear p1 q1 x1 x2 hu hb2 HO
         first | rw [HOI.out] | generalize onceI (rels.getD rel []) gen = oi at *)
      | ((with_reducible refine wpList_sel 64 ?_); refine wpList_val rfl (r_build40 rfl) ?_; refine wpList_skip rfl (r_store40 (.tmp 6) (.tmp 64) rfl (w.heap.size + 1) zero40 zero40 rfl rfl HX3.out rfl rfl zero40_one) ?_))
    try simp only [Exit.inBlock, Exit.then]
    exact bodyPost_ret (results_27 (p := 6) (q := 7) (r := 8) rfl _ _ (w.heap.size + 1) zero40 (.slice none 0 0) (.int .i64 13) rfl rfl rfl (setRow_heap _ _ _ _ _ _ HX3.out) rfl) rfl ⟨by rw [HE.out]; rfl, below_setRow (HB0.out.trans (HB2.out.mono HB0.out.size)) (Nat.le_succ _) _⟩
set_option maxRecDepth 100000 in
set_option maxHeartbeats 4000000 in
/-- the image is too long -/
theorem elim10_long (w : World) (vr : Value) (n : Nat) (rels : List (List Int)) (rel gen k : Nat) (hR : Tab w vr rels) (hsm : ∀ j, (rels.getD j []).length ≤ 8000000) (he : presE n rels = 0) (hr : rel < rels.length) (hg : 1 ≤ gen ∧ gen ≤ n) (hn1 : n ≠ 1) (hon : onceW (rels.getD rel []) gen = some k) (hlong : 1000 < (imgW (rels.getD rel []) k).length) : Calls Tryz.prog 10 #[.agg #[.int .i64 (n : Int), vr], .int .i64 (rel : Int), .int .i64 (gen : Int)] w (RElimPost n rels rel gen w) := by
  obtain ⟨Ar, cr, rfl⟩ := Tab.form hR
  have H19 : Hid (∀ W, Tab W (.slice Ar rels.length cr) rels → Calls Tryz.prog 33 #[.agg #[.int .i64 (n : Int), .slice Ar rels.length cr]] W fun e w' => (∃ y, e = .returned (.tuple #[.int .i64 0, .int .i64 y])) ∧ Below W.heap.size W w') := Lib.hid fun W h => by
    have := pcheck79_any W _ (n : Int) rels h hsm
    unfold PresPost at this
    rw [he] at this
    exact this
  obtain ⟨gn, hgn, hg1, hg2, hln, hall⟩ := presE_good he
  obtain rfl : n = gn := by omega
  clear hgn
  have hE : elimE n rels rel gen = .inr 4 := by
    unfold elimE
    rw [hon]
    simp only [if_neg hn1, if_pos hlong]
  have HE := Lib.hid hE
  have hmr : ∀ z ∈ rels.getD rel [], Mild z := mild_ok (by omega) (hall rel hr).1
  have HMR := Lib.hid hmr
  have hlr := (hall rel hr).2
  have hkr : k < (rels.getD rel []).length := once_lt hon
  have HOI : Hid (onceI (rels.getD rel []) gen = k) := Lib.hid (by unfold onceI; rw [hon])
  have HLONG := Lib.hid hlong
  have H22 : Hid (∀ W u (x : List Int), IntsAt W u x → (∀ z ∈ x, Mild z) → x.length ≤ 1000000 → Calls Tryz.prog 36 #[u] W fun e w'' => ∃ v, e = .returned v ∧ ((∃ A c, v = .slice A (invW x).length c ∧ IntsAt w'' v (invW x)) ∧ Below W.heap.size W w'')) := Lib.hid fun W u x h1 h2 h3 => (invert102_any W u x h1 h2 (by omega)).mono fun e w'' ⟨A, c, e1, h4, h5⟩ => ⟨_, e1, ⟨A, c, rfl, OwnI.ints h4 (Mild.fits fun z hz => mild_inv' h2 z (Ct.red_mem hz))⟩, h5⟩
  have H21 : Hid (∀ W u v (x y : List Int), IntsAt W u x → IntsAt W v y → (∀ z ∈ x, Mild z) → (∀ z ∈ y, Mild z) → x.length + y.length ≤ 1000000 → Calls Tryz.prog 35 #[u, v] W fun e w'' => ∃ v, e = .returned v ∧ ((∃ A c, v = .slice A (mulW x y).length c ∧ IntsAt w'' v (mulW x y)) ∧ Below W.heap.size W w'')) := Lib.hid fun W u v x y h1 h2 h3 h4 h5 => (mul101_any W u v x y h1 h2 h3 h4 (by omega)).mono fun e w'' ⟨A, c, e1, h6, h7⟩ => ⟨_, e1, ⟨A, c, rfl, OwnI.ints h6 (Mild.fits fun z hz => mild_app h3 h4 z (Ct.red_mem hz))⟩, h7⟩
  have HBN := Lib.hid (ElBox.new w n Ar cr rels.length)
  have HRR := Lib.hid hR
  have hr0 : (0 : Int) ≤ (rel : Int) := Int.natCast_nonneg _
  have hrl : (rel : Int) < (rels.length : Int) := by omega
  have hrd : decide ((rel : Int) < 0) = false := decide_eq_false (by omega)
  have hrd2 : decide ((rels.length : Int) ≤ (rel : Int)) = false := decide_eq_false (by omega)
  have hgd : decide ((gen : Int) < 1) = false := decide_eq_false (by omega)
  have hgd2 : decide ((n : Int) < (gen : Int)) = false := decide_eq_false (by omega)
  have hbn : ((n : Int) == 1) = false := beq_eq_false_iff_ne.2 (by omega)
  have hk0 : (0 : Int) ≤ (k : Int) := Int.natCast_nonneg _
  have hkd : decide ((k : Int) < 0) = false := decide_eq_false (by omega)
  clear hR he hE hn1 hon hall hmr hlong
  have HIM : Hid (imgW (rels.getD rel []) k = if (rels.getD rel []).getD k 0 < 0 then invW (mulW (invW ((rels.getD rel []).take k)) (invW ((rels.getD rel []).drop (k + 1)))) else mulW (invW ((rels.getD rel []).take k)) (invW ((rels.getD rel []).drop (k + 1)))) := Lib.hid rfl
  have HLT : Hid (((rels.getD rel []).take k).length ≤ 1000000) := Lib.hid (by rw [List.length_take]; omega)
  have HLD : Hid (((rels.getD rel []).drop (k + 1)).length ≤ 1000000) := Lib.hid (by rw [List.length_drop]; omega)
  have HM1 : Hid (∀ z ∈ invW ((rels.getD rel []).take k), Mild z) := Lib.hid fun z hz => mild_inv' (fun y hy => HMR.out y (List.mem_of_mem_take hy)) z (Ct.red_mem hz)
  have HM2 : Hid (∀ z ∈ invW ((rels.getD rel []).drop (k + 1)), Mild z) := Lib.hid fun z hz => mild_inv' (fun y hy => HMR.out y (List.mem_of_mem_drop hy)) z (Ct.red_mem hz)
  have HL12 : Hid ((invW ((rels.getD rel []).take k)).length + (invW ((rels.getD rel []).drop (k + 1))).length ≤ 1000000) := Lib.hid (by
    have h1 := red_length (inv ((rels.getD rel []).take k))
    have h2 := red_length (inv ((rels.getD rel []).drop (k + 1)))
    rw [length_inv, List.length_take] at h1
    rw [length_inv, List.length_drop] at h2
    unfold invW
    omega)
  have HMV : Hid (∀ z ∈ mulW (invW ((rels.getD rel []).take k)) (invW ((rels.getD rel []).drop (k + 1))), Mild z) := Lib.hid fun z hz => mild_app HM1.out HM2.out z (Ct.red_mem hz)
  have HLV : Hid ((mulW (invW ((rels.getD rel []).take k)) (invW ((rels.getD rel []).drop (k + 1)))).length ≤ 1000000) := Lib.hid (by
    have h1 := red_length (invW ((rels.getD rel []).take k) ++ invW ((rels.getD rel []).drop (k + 1)))
    rw [List.length_append] at h1
    have := HL12.out
    unfold mulW
    omega)
  go_enter Tryz.func10, Tryz.ntmps10
  go_wp2_with ((with_reducible refine wpList_sel 6 ?_); refine wpList_val rfl (r_alloc40 rfl) ?_)
  generalize hw0 : (w.alloc (.cells #[.int .i64 (n : Int), .slice Ar rels.length cr] 24)).alloc (.cells zero40 24) = w0 at *
  have HBX := Lib.hid fun W (hb : Below w0.heap.size w0 W) => HBN.out.at_ hb
  have HB0 := Lib.hid HBN.out.below
  have HBP := Lib.hid HBN.out.arg
  have HR0 := Lib.hid (kept_tab.below HRR.out HB0.out)
  clear hw0 HRR
  go_wp2_with (first
    | ((with_reducible refine wpList_sel 21 ?_); refine wpList_val rfl (r_loadAt 24 (.tmp 3) _ _ rfl rfl (load40 HBP.out)) ?_)
    | (go_at_call 33; (with_reducible refine (H19.out w0 HR0.out).mono ?_); rintro e w1 ⟨⟨y, rfl⟩, hb⟩
       have HB1 := Lib.hid hb
       obtain ⟨⟨p1, q1⟩, x1, x2⟩ := HBX.out _ hb
       have hR1 := kept_tab.below HR0.out hb
       obtain ⟨A', c', e', t1, t2, t3⟩ := hR1.open_
       injection e' with e1 _ e3
       subst e1 e3
       obtain ⟨b, o, rfl, hcc⟩ := t3 (by omega)
       obtain ⟨u, hu, hI⟩ := hcc rel hr
       obtain ⟨Au, cu, rfl, u1, u2, u3⟩ := hI.open_
       obtain ⟨bu, ou, rfl, hcu⟩ := u3 (by omega)
       have HCU := Lib.hid (hcu k hkr)
       have HI := Lib.hid hI
       obtain ⟨A1, hs1, hi1⟩ := ints_cut hI (k := 0) (h := k) (by omega) (by omega)
       obtain ⟨A2, hs2, hi2⟩ := ints_cut hI (k := k + 1) (h := (rels.getD rel []).length) (by omega) (Nat.le_refl _)
       rw [List.take_length] at hi2
       rw [List.drop_zero] at hi1
       simp only [Nat.sub_zero] at hs1 hi1
       have hkc : k ≤ cu := by omega
       have hkx : k + 1 ≤ (rels.getD rel []).length := hkr
       have HS1 := Lib.hid hs1
       have HS2 := Lib.hid hs2
       have HI1 := Lib.hid hi1
       have HI2 := Lib.hid hi2
       have HO := Lib.hid (once34_b w1 _ _ (gen : Int) (by omega) hI)
       have HX2 := Lib.hid x2
       clear x1 x2 hb hR1 t1 t2 t3 hcc hI u2 u3 hcu hs1 hs2 hi1 hi2
       generalize (rels.getD rel []).length = lx at *)
    | (go_at_call 34
       refine HO.out.mono ?_
       rintro e w2 ⟨rfl, hb2⟩
       rw [HOI.out]
       have HB2 := Lib.hid (HB1.out.trans (hb2.mono HB1.out.size))
       have HB12 := Lib.hid hb2
       obtain ⟨⟨p2, q2⟩, x1, x2⟩ := HBX.out _ HB2.out
       clear p1 q1 hu hb2 HO x1 x2))
  refine (wpIn_wide (n := 3)).1 ?_
  refine wpIn_region_all (by kernel_rfl) 11 rfl (fun i => if i < 10 then some (65 + i) else some 13) (lex_of (by kernel_rfl)) (fun _ W => Below w1.heap.size w1 W)
    (fun i v W => (([.eq (.slice (some ⟨bu, ou, none⟩) lx cu), .eq (.int .i64 (k : Int)), .eq (.slice A1 k cu), .ints (invW ((rels.getD rel []).take k)), .eq (.slice (some ⟨bu, ou, none⟩) lx cu), .eq (.int .i64 (k : Int)), .eq (.int .i64 ((k + 1 : Nat) : Int)), .eq (.slice A2 (lx - (k + 1)) (cu - (k + 1))), .ints (invW ((rels.getD rel []).drop (k + 1))), .ints (mulW (invW ((rels.getD rel []).take k)) (invW ((rels.getD rel []).drop (k + 1)))), .ints (mulW (invW ((rels.getD rel []).take k)) (invW ((rels.getD rel []).drop (k + 1))))] : List SlE).getD i (.eq undef)).holds v W)
    (fun _ W W' => Below W.heap.size W W') (dm_inj (by kernel_rfl)) (fun i j v W W' _ _ _ h => SlE.keep h) (dm_lt (n := 152) (by kernel_rfl)) (HB12.out.trans ((Below.refl w2.heap.size w2).drew.mono HB12.out.size)) ?_ ?_
  · intro ls q o a w3 hq ho hS hls hcl hP hpre
    have hcases : q = 0 ∨ q = 1 ∨ q = 2 ∨ q = 3 ∨ q = 4 ∨ q = 5 ∨ q = 6 ∨ q = 7 ∨ q = 8 ∨ q = 9 ∨ q = 10 := by
      have : q < 11 := hq
      omega
    rcases hcases with rfl | rfl | rfl | rfl | rfl | rfl | rfl | rfl | rfl | rfl | rfl
    · obtain rfl := Option.some.inj ho
      exact wpOpIn_of rfl rfl (wpW_val (r_move (.tmp 11) rfl (hP.out 11 (dm_out (by kernel_rfl)))) ⟨_, rfl, hS, Below.refl _ _, (fun h => by simp at h), rfl⟩)
    · obtain rfl := Option.some.inj ho
      exact wpOpIn_of rfl rfl (wpW_val (r_move (.tmp 12) rfl (hP.out 12 (dm_out (by kernel_rfl)))) ⟨_, rfl, hS, Below.refl _ _, (fun h => by simp at h), rfl⟩)
    · obtain rfl := Option.some.inj ho
      exact wpOpIn_of rfl rfl (wpW_val ((run_sl_hi under24w size24w (.tmp 65) (.tmp 66) (some ⟨bu, ou, none⟩) lx cu k rfl (hpre ⟨0, .data⟩ (by simp) rfl).2 (hpre ⟨1, .data⟩ (by simp) rfl).2 hkc).trans (congrArg (fun v => Result.ok (Next.value v) _) HS1.out)) ⟨_, rfl, hS, Below.refl _ _, (fun h => by simp at h), rfl⟩)
    · obtain rfl := Option.some.inj ho
      exact wpOpIn_of rfl rfl (wpW_call (r_call1 (.tmp 67) _ _ rfl (hpre ⟨2, .data⟩ (by simp) rfl).2 call36) (H22.out w3 _ _ (HI1.out.below hS) (fun z hz => HMR.out z (List.mem_of_mem_take hz)) HLT.out) fun v w4 hR => ⟨v, rfl, hS.trans (hR.2.mono hS.size), hR.2, (fun h => by simp at h), hR.1⟩)
    · obtain rfl := Option.some.inj ho
      exact wpOpIn_of rfl rfl (wpW_val (r_move (.tmp 11) rfl (hP.out 11 (dm_out (by kernel_rfl)))) ⟨_, rfl, hS, Below.refl _ _, (fun h => by simp at h), rfl⟩)
    · obtain rfl := Option.some.inj ho
      exact wpOpIn_of rfl rfl (wpW_val (r_move (.tmp 12) rfl (hP.out 12 (dm_out (by kernel_rfl)))) ⟨_, rfl, hS, Below.refl _ _, (fun h => by simp at h), rfl⟩)
    · obtain rfl := Option.some.inj ho
      exact wpOpIn_of rfl rfl (wpW_val (r_add1 (.tmp 70) k rfl (hpre ⟨5, .data⟩ (by simp) rfl).2 (by omega)) ⟨_, rfl, hS, Below.refl _ _, (fun h => by simp at h), rfl⟩)
    · obtain rfl := Option.some.inj ho
      exact wpOpIn_of rfl rfl (wpW_val ((run_sl_lo under24w size24w (.tmp 69) (.tmp 71) (some ⟨bu, ou, none⟩) lx cu (k + 1) rfl (hpre ⟨4, .data⟩ (by simp) rfl).2 (hpre ⟨6, .data⟩ (by simp) rfl).2 hkx).trans (congrArg (fun v => Result.ok (Next.value v) _) HS2.out)) ⟨_, rfl, hS, Below.refl _ _, (fun h => by simp at h), rfl⟩)
    · obtain rfl := Option.some.inj ho
      exact wpOpIn_of rfl rfl (wpW_call (r_call1 (.tmp 72) _ _ rfl (hpre ⟨7, .data⟩ (by simp) rfl).2 call36) (H22.out w3 _ _ (HI2.out.below hS) (fun z hz => HMR.out z (List.mem_of_mem_drop hz)) HLD.out) fun v w4 hR => ⟨v, rfl, hS.trans (hR.2.mono hS.size), hR.2, (fun h => by simp at h), hR.1⟩)
    · obtain rfl := Option.some.inj ho
      obtain ⟨B1, d1, e1, g1⟩ := (hpre ⟨3, .data⟩ (by simp) rfl).2
      obtain ⟨B2, d2, e2, g2⟩ := (hpre ⟨8, .data⟩ (by simp) rfl).2
      exact wpOpIn_of rfl rfl (wpW_call (r_call2 (.tmp 68) (.tmp 73) _ _ _ rfl rfl rfl call35) (H21.out w3 _ _ _ _ g1 g2 HM1.out HM2.out HL12.out) fun v w4 hR => ⟨v, rfl, hS.trans (hR.2.mono hS.size), hR.2, (fun h => by simp at h), hR.1⟩)
    · obtain rfl := Option.some.inj ho
      exact wpOpIn_of rfl rfl (wpW_val (r_assign (.tmp 74) rfl rfl) ⟨_, rfl, hS, Below.refl _ _, (fun h => by simp at h), (hpre ⟨9, .data⟩ (by simp) rfl).2⟩)
  · intro ls a w3 hall hS hP hsl
    obtain ⟨A5, c5, e5, g5⟩ := hsl 10 (by decide)
    obtain ⟨vs, hvs, hfr⟩ := hP.frame 152 rfl
    have e6 : vs 13 = .slice A5 (mulW (invW ((rels.getD rel []).take k)) (invW ((rels.getD rel []).drop (k + 1)))).length c5 := (hvs 13).trans e5
    rw [e5] at g5
    have HV0 := Lib.hid g5
    have HBS := Lib.hid hS
    have HBW := Lib.hid (HB1.out.trans (hS.mono HB1.out.size))
    obtain ⟨-, x1, x2⟩ := HBX.out _ HBW.out
    have HX3 := Lib.hid x2
    have hcz := (HBS.out.cell (p := ⟨bu, ou + k, none⟩) (World.block_lt_of_cell? _ _ HCU.out)).trans HCU.out
    clear hsl hP hall hvs p2 q2 g5 hS x1 x2 e5
    subst hfr
    simp only [List.range, List.range.loop, List.map_cons, List.map_nil, List.any_cons, List.any_nil, Nat.reduceAdd, Nat.reduceBEq, Nat.reduceLT, Option.some_beq_some, Bool.or_false, if_true, if_false, List.getD_cons_zero, List.getD_cons_succ, Bool.or_true, Bool.false_eq_true]
    rw [e6]
    generalize mulW (invW ((rels.getD rel []).take k)) (invW ((rels.getD rel []).drop (k + 1))) = V0 at *
    generalize (rels.getD rel []).getD k 0 = z at *
    have hv0 : (0 : Int) ≤ (V0.length : Int) := Int.natCast_nonneg _
    have hv1 : (V0.length : Int) ≤ 1000000 := by have := HLV.out; omega
    by_cases hz : z < 0
    · have HV := Lib.hid (H22.out w3 _ V0 HV0.out HMV.out HLV.out)
      have hbig : (1000 : Int) < ((invW V0).length : Int) := by have h1 := HIM.out; rw [if_pos hz] at h1; have h2 := HLONG.out; rw [h1] at h2; omega
      go_wp2_with (first
        | (go_at_call 36; (refine HV.out.mono ?_); rintro e w4 ⟨v, rfl, ⟨A6, c6, rfl, h6⟩, hb4⟩
           have HX4 := Lib.hid (HBX.out _ (HBW.out.trans (hb4.mono HBW.out.size))).2.2
           have HB4 := Lib.hid (HBW.out.trans (hb4.mono HBW.out.size))
           clear h6 hb4)
        | ((with_reducible refine wpList_sel 85 ?_); refine wpList_val rfl (r_build40 rfl) ?_; refine wpList_skip rfl (r_store40 (.tmp 6) (.tmp 85) rfl (w.heap.size + 1) zero40 zero40 rfl rfl HX4.out rfl rfl zero40_one) ?_))
      try simp only [Exit.inBlock, Exit.then]
      exact bodyPost_ret (results_27 (p := 6) (q := 7) (r := 8) rfl _ _ (w.heap.size + 1) zero40 (.slice none 0 0) (.int .i64 4) rfl rfl rfl (setRow_heap _ _ _ _ _ _ HX4.out) rfl) rfl ⟨by rw [HE.out]; rfl, below_setRow (HB0.out.trans (HB4.out.mono HB0.out.size)) (Nat.le_succ _) _⟩
    · have hbig : (1000 : Int) < (V0.length : Int) := by have h1 := HIM.out; rw [if_neg hz] at h1; have h2 := HLONG.out; rw [h1] at h2; omega
      go_wp2_with ((with_reducible refine wpList_sel 85 ?_); refine wpList_val rfl (r_build40 rfl) ?_; refine wpList_skip rfl (r_store40 (.tmp 6) (.tmp 85) rfl (w.heap.size + 1) zero40 zero40 rfl rfl HX3.out rfl rfl zero40_one) ?_)
      try simp only [Exit.inBlock, Exit.then]
      exact bodyPost_ret (results_27 (p := 6) (q := 7) (r := 8) rfl _ _ (w.heap.size + 1) zero40 (.slice none 0 0) (.int .i64 4) rfl rfl rfl (setRow_heap _ _ _ _ _ _ HX3.out) rfl) rfl ⟨by rw [HE.out]; rfl, below_setRow (HB0.out.trans (HBW.out.mono HB0.out.size)) (Nat.le_succ _) _⟩
end Go.Proofs
namespace Go.Proofs
open Go.RowKit Go.Shelf Go.Proofs.Ct Go.Maps
def nz (a : List Nat) : List Int := a.map fun (x : Nat) => (x : Int)
theorem length_nz (a : List Nat) : (nz a).length = a.length := by simp [nz]
theorem nz_getD (a : List Nat) (k : Nat) : (nz a).getD k 0 = ((a.getD k 0 : Nat) : Int) := by
  unfold nz
  rw [List.getD_eq_getElem?_getD, List.getD_eq_getElem?_getD, List.getElem?_map]
  cases a[k]? <;> rfl
/-- the two permutations in memory -/
def Two (w : World) (vm : Value) (a b : List Nat) : Prop := Tab w vm [nz a, nz b]
def row2 (a b : List Nat) (q : Nat) : List Nat := if q = 0 then a else b
theorem row2_prm {a b : List Nat} {d q : Nat} (ha : Prm d a) (hb : Prm d b) : Prm d (row2 a b q) := by
  unfold row2
  split
  · exact ha
  · exact hb
/-- how the two lie in memory -/
theorem Two.open_ {w : World} {vm : Value} {a b : List Nat} {d : Nat} (h : Two w vm a b) (ha : Prm d a) (hb : Prm d b) (hd : 1 ≤ d) : ∃ bm om cm, vm = .slice (some ⟨bm, om, none⟩) 2 cm ∧ ∀ q, q < 2 → ∃ bq oq cq, w.cell? ⟨bm, om + q, none⟩ = some (.slice (some ⟨bq, oq, none⟩) d cq) ∧ ∀ y, y < d → w.cell? ⟨bq, oq + y, none⟩ = some (.int .i64 (((row2 a b q).getD y 0 : Nat) : Int)) := by
  obtain ⟨A, c, rfl, -, -, hc⟩ := LAt.open_ h
  obtain ⟨bm, om, rfl, hr⟩ := hc (by simp)
  refine ⟨bm, om, c, rfl, fun q hq => ?_⟩
  obtain ⟨u, hu, hi⟩ := hr q (by simpa using hq)
  have e : ([nz a, nz b] : List (List Int)).getD q [] = nz (row2 a b q) := by
    have : q = 0 ∨ q = 1 := by omega
    rcases this with rfl | rfl <;> rfl
  rw [e] at hi
  obtain ⟨A', c', rfl, -, -, hc'⟩ := hi.open_
  rw [length_nz, (row2_prm ha hb).len] at hc' hu
  obtain ⟨b', o', rfl, hcc⟩ := hc' (by omega)
  exact ⟨b', o', c', hu, fun y hy => by rw [← nz_getD]; exact hcc y hy⟩
end Go.Proofs
namespace Go.Proofs
open Go.RowKit Go.Shelf Go.Proofs.Ct Go.Maps
theorem below_drew' (w : World) : Below w.heap.size w w.drew := (Below.refl _ _).drew
end Go.Proofs
namespace Go.Proofs
open Go.RowKit Go.Shelf Go.Proofs.Ct Go.Maps
theorem owns_low {w : World} {base base' e size n : Nat} {v : Value} {xs : List Value} (h : w.ownsRow base e size v n xs) (hb : base' ≤ base) : w.ownsRow base' e size v n xs := by
  obtain ⟨h1, h2⟩ := h
  refine ⟨h1, ?_⟩
  rcases h2 with h2 | ⟨g, cap, cur, a, b, r⟩
  · exact .inl h2
  · exact .inr ⟨g, cap, cur, a, Nat.le_trans hb b, r⟩
theorem fits_nz {s : List Nat} (h : ∀ x ∈ s, x < 9000000) : Fits (nz s) := fun y hy => by
  obtain ⟨x, hx, rfl⟩ := List.mem_map.1 hy
  have := h x hx
  omega
theorem nz_app (s o : List Nat) : nz (s ++ o) = nz s ++ nz o := List.map_append
theorem nz_take (s : List Nat) (k : Nat) : nz (s.take k) = (nz s).take k := List.map_take
theorem nz_drop (s : List Nat) (k : Nat) : nz (s.drop k) = (nz s).drop k := List.map_drop
/-- two lists of the call's own, apart from each other -/
structure PerS (w : World) (s o : List Nat) (vl vo : Value) (wr : World) : Prop where
  left : OwnI w.heap.size wr vl (nz s)
  out : OwnI w.heap.size wr vo (nz o)
  sep : ∀ r, vl.ownBlock = some r → vo.ownBlock ≠ some r
  below : Below w.heap.size w wr
/-- one element is cut out, into a new list -/
theorem PerS.cut {w wr : World} {s o : List Nat} {A : Option Addr} {c : Nat} {vo : Value} (h : PerS w s o (.slice A s.length c) vo wr) {k : Nat} (hk : k < s.length) (hs : s.length ≤ 1000) (hf : ∀ x ∈ s, x < 9000000) :
    ∃ Al cl Ah ch A1 c1 w1 A2 c2 w2, sliced A 0 k c 1 = .slice Al k cl ∧ sliced A (k + 1) s.length c 1 = .slice Ah (s.length - (k + 1)) ch ∧ k ≤ c ∧
      (Builtin.append_ #[35, 35] 35 #[.slice (some ⟨wr.heap.size, 0, none⟩) 0 0, .slice Al k cl]).run Tryz.prog (wr.drew.alloc (.cells #[] 3)) = .ok (.slice A1 k c1) w1 ∧
      (Builtin.append_ #[35, 35] 35 #[.slice A1 k c1, .slice Ah (s.length - (k + 1)) ch]).run Tryz.prog w1 = .ok (.slice A2 (s.length - 1) c2) w2 ∧
      PerS w (s.take k ++ s.drop (k + 1)) o (.slice A2 (s.length - 1) c2) vo w2 := by
  have hI : IntsAt wr (.slice A (nz s).length c) (nz s) := by rw [length_nz]; exact OwnI.ints h.left (fits_nz hf)
  obtain ⟨Al, hl1, hl2⟩ := ints_sliced hI (k := 0) (h := k) (Nat.zero_le _) (by rw [length_nz]; omega)
  obtain ⟨Ah, hh1, hh2⟩ := ints_sliced hI (k := k + 1) (h := s.length) (by omega) (by rw [length_nz]; exact Nat.le_refl _)
  have hcap : k ≤ c := by
    obtain ⟨A', c', e, hc1, -, -⟩ := hI.open_
    obtain ⟨-, -, rfl⟩ := Value.slice.inj e
    rw [length_nz] at hc1
    omega
  rw [Nat.sub_zero, Nat.sub_zero, List.drop_zero, ← nz_take] at hl2
  rw [Nat.sub_zero, Nat.sub_zero] at hl1
  rw [← length_nz s, List.take_length, length_nz, ← nz_drop] at hh2
  have hd := below_drew' wr
  have hal : Below wr.drew.heap.size wr.drew (wr.drew.alloc (.cells #[] 3)) := (Below.refl _ _).alloc (Nat.le_refl _) _
  have hba := bl3T hd hal
  have h0 : OwnI wr.heap.size (wr.drew.alloc (.cells #[] 3)) (.slice (some ⟨wr.heap.size, 0, none⟩) 0 0) [] := own_new wr.drew
  obtain ⟨A1, c1, w1, hr1, ho1, hg1, -⟩ := app_ints 35 35 Tryz.underlying35 (wr.drew.alloc (.cells #[] 3)) wr.heap.size _ [] h0 _ _ (kept_ints.below hl2 hba) (by simp) (by rw [length_nz]; simp; omega) hba.size
  rw [List.nil_append, length_nz, List.length_take, Nat.min_eq_left (by omega)] at hr1 ho1
  have hb1 : Below wr.heap.size wr w1 := hba.grown hg1 hba.size fun q hq => (owns_block h0 q hq).1
  obtain ⟨A2, c2, w2, hr2, ho2, hg2, -⟩ := app_ints 35 35 Tryz.underlying35 w1 wr.heap.size _ (nz (s.take k)) (by simpa [length_nz, Nat.min_eq_left (Nat.le_of_lt hk)] using ho1) _ _ (kept_ints.below hh2 hb1) (by rw [length_nz]; simp; omega) (by rw [length_nz]; simp; omega) hb1.size
  have hb2 : Below wr.heap.size wr w2 := hb1.grown hg2 hb1.size fun q hq => (owns_block ho1 q hq).1
  rw [← nz_app] at hr2 ho2
  have el : (nz (s.take k ++ s.drop (k + 1))).length = s.length - 1 := by rw [length_nz]; simp; omega
  rw [el] at hr2 ho2
  refine ⟨Al, c, Ah, c - (k + 1), A1, c1, w1, A2, c2, w2, hl1, hh1, hcap, hr1, hr2, owns_low ho2 h.below.size, owns_below h.out hb2, fun r hr e => ?_, bl3T h.below hb2⟩
  have h1 := (owns_block ho2 r hr).1
  have h2 := owns_lt h.out e
  omega
end Go.Proofs
namespace Go.Proofs
open Go.RowKit Go.Shelf Go.Proofs.Ct Go.Maps
/-- an element reads as itself -/
def heldE (v : Value) : Option (DataW Value × List MemPlace) := some (.held v, [])
/-- block b is a map that has f s at the number s -/
def MapV (w : World) (b n : Nat) (f : Int → Value) : Prop :=
  ∃ D, w.ownsMap (H := Value) Tryz.prog 3 heldE b n D ∧ ∀ s, I64 s → D.atKey (.int .i64 s) (.held (.slice none 0 0)) = .held (f s)
theorem MapV.made (w : World) : MapV (w.alloc (.map #[] 0)) w.heap.size 0 (fun _ => .slice none 0 0) :=
  ⟨.map [], World.ownsMap_made _ _ _ _, fun _ _ => rfl⟩
theorem MapV.kept {w w' : World} {b n : Nat} {f : Int → Value} {row : Option Nat} (h : MapV w b n f) (hg : w.grownBy w' row) (hne : row ≠ some b) : MapV w' b n f := by
  obtain ⟨D, h2, h3⟩ := h
  exact ⟨D, h2.kept hg (Ne.symm hne), h3⟩
theorem MapV.lt {w : World} {b n : Nat} {f : Int → Value} (h : MapV w b n f) : b < w.heap.size := by
  obtain ⟨D, h2, -⟩ := h
  exact h2.lt
theorem MapV.below {w w' : World} {b n : Nat} {f : Int → Value} (h : MapV w b n f) (hb : Below w.heap.size w w') : MapV w' b n f := by
  obtain ⟨D, ⟨es, clock, h1, h2⟩, h3⟩ := h
  exact ⟨D, ⟨es, clock, (hb.block b (Array.getElem?_eq_some_iff.1 h1).1).trans h1, h2⟩, h3⟩
theorem MapV.isMapObj {w : World} {b n : Nat} {f : Int → Value} (h : MapV w b n f) : ∃ es clock, w.heap[b]? = some (.map es clock) := by
  obtain ⟨D, ⟨es, clock, hb, -⟩, h3⟩ := h
  exact ⟨es, clock, hb⟩
end Go.Proofs
namespace Go.Proofs
open Go.RowKit Go.Shelf Go.Proofs.Ct Go.Maps
/-- a made list of numbers, the call's own -/
structure InvS (w : World) (g : Nat) (row : List Int) (wr : World) : Prop where
  blk : wr.heap[g]? = some (.cells (ints row).toArray 3 (0, 0))
  ge : w.heap.size ≤ g
  below : Below w.heap.size w wr
theorem InvS.at_ {w wr : World} {g : Nat} {row : List Int} (h : InvS w g row wr) {k : Nat} (hk : k < row.length) : wr.cell? ⟨g, k, none⟩ = some (.int .i64 (row.getD k 0)) := by
  rw [cell_of_row _ _ _ _ _ _ h.blk]
  simp [ints, List.getD_eq_getElem?_getD, hk]
theorem InvS.set {w wr : World} {g : Nat} {row : List Int} (h : InvS w g row wr) {k : Nat} (x : Int) : InvS w g (row.set k x) (wr.setCell ⟨g, k, none⟩ (.int .i64 x)) := by
  refine ⟨?_, h.ge, ?_⟩
  · rw [box_set h.blk]
    congr 2
    simp [ints, List.map_set]
  · have hsz : (wr.setCell ⟨g, k, none⟩ (.int .i64 x)).heap.size = wr.heap.size := by simp [World.setCell]
    exact ⟨h.below.os, h.below.tape, h.below.output, by rw [hsz]; exact h.below.size, fun q hq => (heap_setCell_other wr _ q _ (by have := h.ge; show q ≠ g; omega)).trans (h.below.block q hq)⟩
def rowA (d k : Nat) : List Int := (List.range d).map fun y => if y < k then -1 else 0
theorem rowA_zero (d : Nat) : (ints (rowA d 0)).toArray = Array.replicate d (.int .i64 0) := by
  have : ints (rowA d 0) = List.replicate d (.int .i64 0) := by
    apply List.ext_getElem
    · simp [rowA, ints]
    · intro i h1 h2; simp [rowA, ints]
  rw [this, List.toArray_replicate]
theorem InvS.start (w : World) (d : Nat) : InvS w w.heap.size (rowA d 0) (w.alloc (.cells (Array.replicate d (.int .i64 0)) 3)) :=
  ⟨by rw [rowA_zero]; exact heap_alloc_new w _, Nat.le_refl _, (Below.refl _ _).alloc (Nat.le_refl _) _⟩
end Go.Proofs
namespace Go.Proofs
open Go.RowKit Go.Shelf Go.Proofs.Ct Go.Maps
/-- a list of d numbers in memory, given by a function -/
def Col (w : World) (v : Value) (d : Nat) (f : Nat → Nat) : Prop := ∃ b o c, v = .slice (some ⟨b, o, none⟩) d c ∧ ∀ y, y < d → w.cell? ⟨b, o + y, none⟩ = some (.int .i64 ((f y : Nat) : Int))
theorem Col.below {w w' : World} {v : Value} {d : Nat} {f : Nat → Nat} (h : Col w v d f) (hb : Below w.heap.size w w') : Col w' v d f := by
  obtain ⟨b, o, c, rfl, hc⟩ := h
  exact ⟨b, o, c, rfl, fun y hy => (hb.cell (p := ⟨b, o + y, none⟩) (World.block_lt_of_cell? w _ (hc y hy))).trans (hc y hy)⟩
theorem Col.grown {w w' : World} {v : Value} {d n bp : Nat} {f : Nat → Nat} {g : Int → Value} (h : Col w v d f) (hm : MapV w bp n g) (hg : w.grownBy w' (some bp)) : Col w' v d f := by
  obtain ⟨b, o, c, rfl, hc⟩ := h
  refine ⟨b, o, c, rfl, fun y hy => hg.cell (hc y hy) fun e => ?_⟩
  have e2 : b = bp := Option.some.inj e
  obtain ⟨es, cl, hmo⟩ := hm.isMapObj
  have h1 := hc y hy
  simp [World.cell?, e2, hmo] at h1
theorem Col.ints {w : World} {v : Value} {d : Nat} {s : List Nat} {A : Option Addr} {c : Nat} (hv : v = .slice A d c) (h : IntsAt w v (nz s)) (hs : s.length = d) (hd : 1 ≤ d) : Col w v d (fun y => s.getD y 0) := by
  subst hv
  obtain ⟨A', c', e, -, -, hc⟩ := h.open_
  rw [length_nz, hs] at e hc
  obtain ⟨rfl, -, rfl⟩ := Value.slice.inj e
  obtain ⟨b, o, rfl, hcc⟩ := hc (by omega)
  exact ⟨b, o, c, rfl, fun y hy => by rw [← nz_getD]; exact hcc y hy⟩
theorem Col.congr {w : World} {v : Value} {d : Nat} {f g : Nat → Nat} (h : Col w v d f) (e : ∀ y, y < d → f y = g y) : Col w v d g := by
  obtain ⟨b, o, c, rfl, hc⟩ := h
  exact ⟨b, o, c, rfl, fun y hy => by rw [← e y hy]; exact hc y hy⟩
/-- the letters' lists that have been put -/
structure ActS (w : World) (bp : Nat) (a b : List Nat) (d k : Nat) (wr : World) : Prop where
  map : ∃ n f, n ≤ 2 * k ∧ MapV wr bp n f ∧ ∀ l : Int, l ≠ 0 → -(k : Int) ≤ l → l ≤ (k : Int) → Col wr (f l) d (fun y => act2 a b y (col l))
  ge : w.heap.size ≤ bp
  below : Below w.heap.size w wr
theorem ActS.start {w w1 : World} (hb : Below w.heap.size w w1) (a b : List Nat) (d : Nat) : ActS w w1.heap.size a b d 0 (w1.alloc (.map #[] 0)) :=
  ⟨⟨0, _, by omega, MapV.made w1, fun l h1 h2 h3 => absurd (by omega : l = 0) h1⟩, hb.size, hb.alloc hb.size _⟩
theorem Two.rows {w : World} {vm : Value} {a b : List Nat} {d : Nat} (h : Two w vm a b) (ha : Prm d a) (hb : Prm d b) (hd : 1 ≤ d) : ∃ bm om cm, vm = .slice (some ⟨bm, om, none⟩) 2 cm ∧ ∀ q, q < 2 → ∃ bq oq cq, w.cell? ⟨bm, om + q, none⟩ = some (.slice (some ⟨bq, oq, none⟩) d cq) ∧ IntsAt w (.slice (some ⟨bq, oq, none⟩) d cq) (nz (row2 a b q)) := by
  obtain ⟨A, c, rfl, -, -, hc⟩ := LAt.open_ h
  obtain ⟨bm, om, rfl, hr⟩ := hc (by simp)
  refine ⟨bm, om, c, rfl, fun q hq => ?_⟩
  obtain ⟨u, hu, hi⟩ := hr q (by simpa using hq)
  have e : ([nz a, nz b] : List (List Int)).getD q [] = nz (row2 a b q) := by
    have : q = 0 ∨ q = 1 := by omega
    rcases this with rfl | rfl <;> rfl
  rw [e] at hi
  obtain ⟨A', c', rfl, -, -, hc'⟩ := hi.open_
  rw [length_nz, (row2_prm ha hb).len] at hc' hu hi
  obtain ⟨b', o', rfl, hcc⟩ := hc' (by omega)
  exact ⟨b', o', c', hu, hi⟩
end Go.Proofs
namespace Go.Proofs
open Go.RowKit Go.Shelf Go.Proofs.Ct Go.Proofs.Tz Go.Maps
def actM (M : List (List Nat)) (p c : Nat) : Nat := if c % 2 = 0 then (M.getD (c / 2) []).getD p 0 else (M.getD (c / 2) []).idxOf p
section
variable {d : Nat} {M : List (List Nat)}
end
/-- the letters' lists that have been put -/
structure ActG (w : World) (bp : Nat) (M : List (List Nat)) (d k : Nat) (wr : World) : Prop where
  map : ∃ n f, n ≤ 2 * k ∧ MapV wr bp n f ∧ ∀ l : Int, l ≠ 0 → -(k : Int) ≤ l → l ≤ (k : Int) → Col wr (f l) d (fun y => actM M y (col l))
  ge : w.heap.size ≤ bp
  below : Below w.heap.size w wr
theorem ActG.start {w w1 : World} (hb : Below w.heap.size w w1) (M : List (List Nat)) (d : Nat) : ActG w w1.heap.size M d 0 (w1.alloc (.map #[] 0)) :=
  ⟨⟨0, _, by omega, MapV.made w1, fun l h1 h2 h3 => absurd (by omega : l = 0) h1⟩, hb.size, hb.alloc hb.size _⟩
end Go.Proofs
namespace Go.Proofs
open Go.RowKit Go.Shelf Go.Proofs.Ct Go.Maps
theorem InvS.drewN {w wr : World} {g : Nat} {row : List Int} (h : InvS w g row wr) (n : Nat) : InvS w g row (wr.drewN n) := ⟨h.blk, h.ge, below_drewN h.below n⟩
theorem InvS.own {w wr : World} {g base : Nat} {row : List Int} (h : InvS w g row wr) (hb : base ≤ w.heap.size) (hl : row.length ≤ 1000) : OwnI base wr (.slice (some ⟨g, 0, none⟩) row.length row.length) row := by
  refine ⟨by rw [length_ints, Nat.mul_one], .inr ⟨g, row.length, _, rfl, Nat.le_trans hb h.ge, h.blk, Nat.le_refl _, by unfold maxLen; omega, by simp [ints], ?_⟩⟩
  rw [Nat.mul_one, List.take_of_length_le (by simp [ints])]
end Go.Proofs
namespace Go.Proofs
open Go.RowKit Go.Shelf Go.Lib Go.Sort Go.Proofs.Ct Go.Proofs.Tz Go.Maps
/-- the box pb of a presentation (its cells nb and vb) beside the growing list v of relators; words and lists that lie in wa are kept, but for X -/
structure PS (B pb : Nat) (X F : Nat → Prop) (wa : World) (nb : Int) (vb v : Value) (R : List (List Int)) (W : World) : Prop where
  box : W.heap[pb]? = some (.cells #[.int .i64 nb, vb] 24 (0, 0))
  lo : B ≤ pb
  lt : pb < wa.heap.size
  below : Below B wa W
  ag : AgX X wa W
  out : OwnT 36 B F W v R
  fs : ∀ k, F k → B ≤ k ∧ k < W.heap.size ∧ ∃ C, W.heap[k]? = some (.cells C 3 (0, 0))
  ob : ∀ r, v.ownBlock = some r → X r ∨ wa.heap.size ≤ r
/-- a word of the call's own beside it -/
structure PSw (F : Nat → Prop) (wa : World) (u : Value) (x : List Int) (W : World) : Prop where
  row : OwnI wa.heap.size W u x
  ap : ∀ r, u.ownBlock = some r → ¬ F r
section
variable {B pb : Nat} {X F : Nat → Prop} {wa W W' : World} {nb : Int} {vb v u : Value} {R : List (List Int)} {x : List Int}
theorem PS.bnd (h : PS B pb X F wa nb vb v R W) : B ≤ W.heap.size := by have := h.lo; have := h.lt; have := h.below.size; omega
theorem PS.grown {row : Option Nat} (h : PS B pb X F wa nb vb v R W) (hg : W.grownBy W' row) (h0 : ∀ r, row = some r → r ≠ pb ∧ ¬ F r ∧ v.ownBlock ≠ some r ∧ wa.heap.size ≤ r) : PS B pb X F wa nb vb v R W' := by
  have hub := h.out.block
  refine ⟨(hg.block pb (Array.getElem?_eq_some_iff.1 h.box).1 fun e => (h0 pb e.symm).1 rfl).trans h.box, h.lo, h.lt, h.below.grown hg h.bnd (fun r hr => by have := (h0 r hr).2.2.2; have := h.lo; have := h.lt; omega), ⟨Nat.le_trans h.ag.size hg.size, fun k o ho hw hx => ?_⟩, h.out.keep (fun r hr => ?_) (Ag.grown hg fun k hk => ⟨(h.fs k hk).2.1, fun e => (h0 _ e).2.1 hk⟩) (fun _ h => h), fun k hk => ?_, h.ob⟩
  · have hlt := (Array.getElem?_eq_some_iff.1 ho).1
    have h1 := h.ag.same k o ho hw hx
    exact (hg.block k (Array.getElem?_eq_some_iff.1 h1).1 fun e => by have := (h0 k e.symm).2.2.2; omega).trans h1
  · obtain ⟨-, C, hC⟩ := hub r hr
    exact hg.block r (Array.getElem?_eq_some_iff.1 hC).1 fun e => (h0 r e.symm).2.2.1 hr
  · obtain ⟨h1, h2, C, hC⟩ := h.fs k hk
    exact ⟨h1, Nat.lt_of_lt_of_le h2 hg.size, C, grown_cells hg hC fun e => (h0 _ e).2.1 hk⟩
theorem PS.below' (h : PS B pb X F wa nb vb v R W) (hb : Below W.heap.size W W') : PS B pb X F wa nb vb v R W' :=
  h.grown (row := none) ⟨hb.os, hb.tape, hb.output, hb.size, fun k hk _ => hb.block k hk⟩ fun r hr => by cases hr
theorem PSw.below' (h : PSw F wa u x W) (hb : Below W.heap.size W W') : PSw F wa u x W' := ⟨owns_below h.row hb, h.ap⟩
theorem PSw.nil (F : Nat → Prop) (wa W : World) : PSw F wa (.slice none 0 0) [] W := ⟨World.ownsRow_nil _ _ _ _, fun r hr => by cases hr⟩
/-- the word joins the relators -/
theorem PS.push {A : Option Addr} {n c : Nat} (h : PS B pb X F wa nb vb v R W) (k : PSw F wa (.slice A n c) x W) (hf : Fits x) (hl : R.length ≤ 9000000) :
    ∃ A' c' W', (Builtin.append_ #[22, 22] 22 #[v, .slice (some ⟨W.heap.size, 0, none⟩) 1 1]).run Tryz.prog (W.alloc (.cells #[.slice A n c] 36)) = .ok (.slice A' (R.length + 1) c') W' ∧ PS B pb X (fun r => F r ∨ (Value.slice A n c).ownBlock = some r) wa nb vb (.slice A' (R.length + 1) c') (R ++ [x]) W' ∧ W.grownBy W' v.ownBlock := by
  have hs : wa.heap.size ≤ W.heap.size := h.below.size
  have hBs : B ≤ wa.heap.size := by have := h.lo; have := h.lt; omega
  have hub := h.out.block
  have hrb := owns_block k.row
  have hF2 : ∀ r, (F r ∨ (Value.slice A n c).ownBlock = some r) → r < W.heap.size ∧ v.ownBlock ≠ some r := fun r hr => by
    rcases hr with hr | hr
    · obtain ⟨h1, h2, C, hC⟩ := h.fs r hr
      refine ⟨h2, fun e => ?_⟩
      obtain ⟨-, D, hD⟩ := hub r e
      exact (ne_type hC hD (by decide)) rfl
    · obtain ⟨h1, C, hC⟩ := hrb r hr
      refine ⟨(Array.getElem?_eq_some_iff.1 hC).1, fun e => ?_⟩
      obtain ⟨-, D, hD⟩ := hub r e
      exact (ne_type hC hD (by decide)) rfl
  obtain ⟨A', c', W', hr, ho', hg, hw⟩ := push_row (t := 22) (ty := 22) Tryz.underlying22 info25p W B (fun r => F r ∨ (Value.slice A n c).ownBlock = some r) v R (h.out.keep (fun _ _ => rfl) (Ag.refl _ _) (fun r hr => .inl hr)) A n c x ((IntsF.of_own k.row hf).mono fun r hr => .inr hr) hF2 (by omega) h.bnd
  have hne : ∀ r, v.ownBlock = some r → r ≠ pb := fun r hr e => by
    obtain ⟨-, C, hC⟩ := hub r hr
    exact (ne_type hC h.box (by decide)) e
  refine ⟨A', c', W', hr, ⟨(hg.block pb (Array.getElem?_eq_some_iff.1 h.box).1 fun e => hne pb e.symm rfl).trans h.box, h.lo, h.lt, h.below.grown hg h.bnd (fun r hr => (hub r hr).1), ⟨Nat.le_trans h.ag.size hg.size, fun q o ho hw' hx => ?_⟩, ho', fun r hr => ?_, fun r hr' => ?_⟩, hg⟩
  · have hlt := (Array.getElem?_eq_some_iff.1 ho).1
    have h1 := h.ag.same q o ho hw' hx
    refine (hg.block q (Array.getElem?_eq_some_iff.1 h1).1 fun e => ?_).trans h1
    rcases h.ob q e.symm with h2 | h2
    · exact hx h2
    · omega
  · have h2 := hF2 r hr
    rcases hr with hr | hr
    · obtain ⟨h1, -, C, hC⟩ := h.fs r hr
      exact ⟨h1, Nat.lt_of_lt_of_le h2.1 hg.size, C, grown_cells hg hC h2.2⟩
    · obtain ⟨h1, C, hC⟩ := hrb r hr
      exact ⟨by omega, Nat.lt_of_lt_of_le h2.1 hg.size, C, grown_cells hg hC h2.2⟩
  · rcases hw with e | ⟨r', e, h2⟩
    · exact h.ob r (e ▸ hr')
    · rw [e] at hr'
      cases hr'
      exact .inr (by omega)
/-- a cell of the box is written -/
theorem PS.put {k : Nat} {z : Value} (h : PS B pb X F wa nb vb v R W) {nb' : Int} {vb' : Value} (e : (#[.int .i64 nb, vb] : Array Value).setIfInBounds k z = #[.int .i64 nb', vb']) : PS B pb X F wa nb' vb' v R (W.setCell ⟨pb, k, none⟩ z) := by
  have hg : W.grownBy (W.setCell ⟨pb, k, none⟩ z) (some pb) := grown_setCell W pb k z
  have hub := h.out.block
  refine ⟨by rw [← e]; exact heap_set5 h.box, h.lo, h.lt, h.below.grown hg h.bnd (fun r hr => by cases hr; exact h.lo), ⟨Nat.le_trans h.ag.size hg.size, fun q o ho hw hx => ?_⟩, h.out.keep (fun r hr => ?_) (Ag.grown hg fun k hk => ⟨(h.fs k hk).2.1, fun e => ?_⟩) (fun _ h => h), fun k hk => ?_, h.ob⟩
  · have h1 := h.ag.same q o ho hw hx
    refine (hg.block q (Array.getElem?_eq_some_iff.1 h1).1 fun e => ?_).trans h1
    obtain rfl := Option.some.inj e
    rw [h.box] at h1
    obtain ⟨C, t, fr, rfl, ht⟩ := hw
    injection h1 with h1
    injection h1 with _ h2 _
    subst h2
    revert ht
    decide
  · obtain ⟨-, C, hC⟩ := hub r hr
    exact hg.block r (Array.getElem?_eq_some_iff.1 hC).1 fun e => (ne_type hC h.box (by decide)) (Option.some.inj e)
  · obtain ⟨-, -, C, hC⟩ := h.fs _ hk
    exact (ne_type hC h.box (by decide)) (Option.some.inj e).symm
  · obtain ⟨h1, h2, C, hC⟩ := h.fs k hk
    exact ⟨h1, Nat.lt_of_lt_of_le h2 hg.size, C, grown_cells hg hC fun e => (ne_type hC h.box (by decide)) (Option.some.inj e).symm⟩
theorem PS.tab (h : PS B pb X F wa nb vb v R W) : Tab W v R := OwnT.tab h.out
end
end Go.Proofs
