/- CosetMaps: a word that fits (f67), the order of a word (f64); append of one list to another of the call's own; A region that draws its order: what its slots hold lies in blocks of their own (footprints); some are written again by the operation that takes them; What the slots of a drawn region hold, each in blocks of its own (for the law of T2); The walk of CosetHolds; Calls as operations of a drawn region; what Enumerate answers, by blocks; The memory of least: which cosets are known, their least words, the layer and the next one; Conjugates of subgroups, plainly: the standard table with another base; The memory of CosetConjugates: the words of the conjugate are laid. -/
import Derived.Test.YtcfighimnkfmeaaCmCS17
import Derived.Test.YtcfighimnkfmeaaCmCS1
import Derived.Test.YtcfighimnkfmeaaCmCS9
import Derived.Test.YtcfighimnkfmeaaCmCS14
namespace Go.Proofs
open Go.RowKit Go.Shelf Go.Proofs.Ct Go.Maps
set_option maxRecDepth 100000 in
theorem fits67_any (w : World) (vw : Value) (ws : Ct.W) (hw : IntsAt w vw ws) (hok : LOk 2 ws) : Calls Try.prog 67 #[vw] w fun e w' => e = .returned (.bool true) ∧ w' = w := by
  obtain ⟨Aw, cw, rfl, hw1, hw2, hwc⟩ := hw.open_
  have HWC := Lib.hid hwc
  have HOK := Lib.hid hok
  have hwl : (ws.length : Int) ≤ 9223372036854775807 := by omega
  have hwl0 : (0 : Int) ≤ (ws.length : Int) := Int.natCast_nonneg _
  clear hwc hw hok hw1 hw2
  go_enter Try.func67, Try.ntmps67
  go_wp2_with fail
  go_loopw [3] (fun i wr => ∃ k : Nat, i = .int .i64 (k : Int) ∧ k ≤ ws.length ∧ wr = w) (fun i _ => ws.length - (intOf i).toNat)
  case atStart => exact ⟨0, rfl, Nat.zero_le _, by first | trivial | rfl⟩
  case round =>
    obtain ⟨k, rfl, hk, rfl⟩ := hrel
    have hk0 : (0 : Int) ≤ (k : Int) := Int.natCast_nonneg _
    by_cases hlt : k < ws.length
    · have hlt' : (k : Int) < (ws.length : Int) := by omega
      obtain ⟨bw, ow, rfl, hcell⟩ := HWC.out (by omega)
      have x1 := hcell k hlt
      obtain ⟨h1, h2, h3⟩ := HOK.out (ws.getD k 0) (by rw [List.getD_eq_getElem?_getD, List.getElem?_eq_getElem hlt]; exact List.getElem_mem hlt)
      generalize ws.getD k 0 = l at *
      have d1 : (l == (0 : Int)) = false := by rw [beq_eq_false_iff_ne]; exact h3
      have d2 : ¬ l < -2 := by omega
      have d3 : ¬ (2 : Int) < l := by omega
      clear h1 h2 h3 hcell
      go_wp2_with fail
      go_roundw
      case rel => exact ⟨k + 1, by go_num, by omega, by first | trivial | rfl⟩
      case measure => simp [intOf]; omega
    · obtain rfl : k = ws.length := by omega
      go_wp2_with fail
      go_ret
      exact ⟨rfl, by first | trivial | rfl⟩
/-- the points below x are fixed -/
def fxT (f : Nat → Nat) (k x : Nat) : Bool := (List.range x).all fun y => itf f k y == y
theorem fxT_succ (f : Nat → Nat) (k x : Nat) : fxT f k (x + 1) = (fxT f k x && (itf f k x == x)) := by
  unfold fxT
  rw [List.range_succ, List.all_append]
  simp
theorem fxT_iff {f : Nat → Nat} {k x : Nat} : fxT f k x = true ↔ ∀ y, y < x → itf f k y = y := by
  unfold fxT
  rw [List.all_eq_true]
  exact ⟨fun h y hy => eq_of_beq (h y (List.mem_range.2 hy)), fun h y hy => by rw [h y (List.mem_range.1 hy)]; exact beq_self_eq_true y⟩
theorem itf_lt {f : Nat → Nat} {d : Nat} (hf : ∀ x, x < d → f x < d) {x : Nat} (hx : x < d) : ∀ k, itf f k x < d
  | 0 => hx
  | k + 1 => hf _ (itf_lt hf hx k)
set_option maxRecDepth 100000 in
theorem order64_any (w : World) (vm vw : Value) (a b : List Nat) (d : Nat) (ws : Ct.W) (hd : 1 ≤ d ∧ d ≤ 6) (ha : Prm d a) (hb : Prm d b) (hm : Two w vm a b) (hw : IntsAt w vw ws) (hok : LOk 2 ws) :
    Calls Try.prog 64 #[vm, vw, .int .i64 (d : Int)] w fun e w' => (∃ n : Nat, e = .returned (.int .i64 (n : Int)) ∧ 1 ≤ n ∧ n ≤ 6 ∧ ∀ x, x < d → actW (act2 a b) x (wpow ws n) = x) ∧ w' = w := by
  obtain ⟨N, hN1, hN6, hN⟩ := word_order hd.2 ha hb hok
  have HN := Lib.hid (fxT_iff.2 hN)
  have HI : Hid (∀ x, x < d → Calls Try.prog 65 #[vm, .int .i64 (x : Int), vw] w fun e w' => e = .returned (.int .i64 ((actW (act2 a b) x ws : Nat) : Int)) ∧ w' = w) := Lib.hid fun x hx => img65_any w vm vw a b d x ws hd ha hb hm hw hx hok
  have HL : Hid (∀ x, x < d → ∀ k, itf (fun y => actW (act2 a b) y ws) k x < d) := Lib.hid fun x hx k => itf_lt (fun y hy => actW_lt ha hb hy ws) hx k
  have HP : Hid (∀ n : Nat, fxT (fun y => actW (act2 a b) y ws) n d = true → ∀ x, x < d → actW (act2 a b) x (wpow ws n) = x) := Lib.hid fun n h x hx => by
    rw [act_wpow]
    exact fxT_iff.1 h x hx
  have HF : Hid (∀ x : Nat, actW (act2 a b) x ws = (fun y => actW (act2 a b) y ws) x) := Lib.hid fun _ => rfl
  have hd1 : (1 : Int) ≤ (d : Int) := by omega
  have hd6 : (d : Int) ≤ 6 := by omega
  obtain ⟨bm, om, cm, rfl, -⟩ := hm.open_ ha hb hd.1
  obtain ⟨Aw, cw, rfl, hw1, hw2, -⟩ := hw.open_
  have hd0 := hd
  clear ha hb hm hw hok hN hw1 hw2 hd0
  generalize (fun y => actW (act2 a b) y ws) = F at *
  go_enter Try.func64, Try.ntmps64
  go_wp2_with fail
  go_loopw [7] (fun i wr => ∃ k : Nat, i = .int .i64 (k : Int) ∧ 1 ≤ k ∧ k ≤ N ∧ wr = w) (fun i _ => N - (intOf i).toNat)
  case atStart => exact ⟨1, rfl, Nat.le_refl _, hN1, by first | trivial | rfl⟩
  case round =>
    obtain ⟨k, rfl, hk1, hkN, rfl⟩ := hrel
    have hk0 : (1 : Int) ≤ (k : Int) := by omega
    have hk6 : (k : Int) ≤ 6 := by omega
    go_wp2_with fail
    go_loopw [8, 9] (fun fv i wr2 => ∃ x : Nat, i = .int .i64 (x : Int) ∧ x ≤ d ∧ fv = .bool (fxT F k x) ∧ wr2 = wr) (fun _ i _ => d - (intOf i).toNat)
    case atStart => exact ⟨0, rfl, Nat.zero_le _, rfl, by first | trivial | rfl⟩
    case round =>
      obtain ⟨x, rfl, hx, rfl, rfl⟩ := hrel
      have hx0 : (0 : Int) ≤ (x : Int) := Int.natCast_nonneg _
      by_cases hxd : x < d
      · have hxd' : (x : Int) < (d : Int) := by omega
        have HS := Lib.hid (fxT_succ F k x)
        generalize fxT F k x = fb at *
        go_wp2_with fail
        go_loopw [10, 11] (fun yv i wr3 => ∃ j : Nat, i = .int .i64 (j : Int) ∧ j ≤ k ∧ yv = .int .i64 ((itf F j x : Nat) : Int) ∧ wr3 = wr) (fun _ i _ => k - (intOf i).toNat)
        case atStart => exact ⟨0, rfl, Nat.zero_le _, rfl, by first | trivial | rfl⟩
        case round =>
          obtain ⟨j, rfl, hj, rfl, rfl⟩ := hrel
          have hj0 : (0 : Int) ≤ (j : Int) := Int.natCast_nonneg _
          by_cases hjk : j < k
          · have hjk' : (j : Int) < (k : Int) := by omega
            have HC := Lib.hid (HI.out _ (HL.out x hxd j))
            have HE : Hid (itf F (j + 1) x = actW (act2 a b) (itf F j x) ws) := Lib.hid (by rw [HF.out]; rfl)
            generalize itf F j x = y at *
            go_wp2_with fail
            refine HC.out.mono ?_
            rintro e w3 ⟨rfl, rfl⟩
            go_wp2_with fail
            go_roundw
            case rel => exact ⟨j + 1, by go_num, by omega, by rw [HE.out], by first | trivial | rfl⟩
            case measure => simp [intOf]; omega
          · obtain rfl : j = k := by omega
            by_cases hz : itf F j x = x
            · have HZ : Hid (fxT F j (x + 1) = fb) := Lib.hid (by rw [HS.out, hz, beq_self_eq_true, Bool.and_true])
              rw [hz]
              have d1 : ((x : Int) == (x : Int)) = true := by simp
              clear hz
              cases fb
              · go_wp2_with fail
                go_roundw
                case rel => exact ⟨x + 1, by go_num, by omega, by rw [HZ.out], by first | trivial | rfl⟩
                case measure => simp [intOf]; omega
              · go_wp2_with fail
                go_roundw
                case rel => exact ⟨x + 1, by go_num, by omega, by rw [HZ.out], by first | trivial | rfl⟩
                case measure => simp [intOf]; omega
            · have HZ : Hid (fxT F j (x + 1) = false) := Lib.hid (by rw [HS.out, beq_eq_false_iff_ne.2 hz, Bool.and_false])
              generalize itf F j x = y at *
              have d1 : ((y : Int) == (x : Int)) = false := by rw [beq_eq_false_iff_ne]; omega
              clear hz
              cases fb
              · go_wp2_with fail
                go_roundw
                case rel => exact ⟨x + 1, by go_num, by omega, by rw [HZ.out], by first | trivial | rfl⟩
                case measure => simp [intOf]; omega
              · go_wp2_with fail
                go_roundw
                case rel => exact ⟨x + 1, by go_num, by omega, by rw [HZ.out], by first | trivial | rfl⟩
                case measure => simp [intOf]; omega
      · obtain rfl : x = d := by omega
        cases hfx : fxT F k x with
        | true =>
          have HQ := Lib.hid (HP.out k hfx)
          go_wp2_with fail
          go_ret
          exact ⟨⟨k, rfl, hk1, by omega, HQ.out⟩, by first | trivial | rfl⟩
        | false =>
          have hkn : k < N := by
            rcases Nat.lt_or_ge k N with h | h
            · exact h
            · exfalso
              have : k = N := by omega
              rw [this, HN.out] at hfx
              cases hfx
          go_wp2_with fail
          go_roundw
          case rel => exact ⟨k + 1, by go_num, by omega, by omega, by first | trivial | rfl⟩
          case measure => simp [intOf]; omega
end Go.Proofs
namespace Go.Proofs
open Go.RowKit Go.Shelf Go.Maps
theorem run_append_none (w : World) (base : Nat) (t ty e : TypeId) (i : TypeInfo) (ht : Try.prog.underlying t = some (.slice e)) (hi : Try.prog.info? e = some i) (_hs : i.size = 1)
    (v : Value) (n : Nat) (xs : List Value) (cap : Nat) (hown : w.ownsRow base e 1 v n xs) : (Builtin.append_ #[t, t] ty #[v, .slice none 0 cap]).run Try.prog w = .ok v w := by
  rcases hown.2 with ⟨rfl, rfl⟩ | ⟨g, cap', cur, rfl, -, hg, hnc, hcm, hcs, htake⟩
  · simp [Builtin.append_, run_underlying ht, sizeOf, typeInfo, hi, Builtin.lenOf, Builtin.firstCells]
  · simp [Builtin.append_, run_underlying ht, sizeOf, typeInfo, hi, Builtin.lenOf, Builtin.firstCells, hnc, storeCells]
/-- append(v, u...): v is of the call's own, u is read -/
theorem run_app {t ty e : TypeId} {z : Value} {bytes : Nat} (ht : Try.prog.underlying t = some (.slice e)) (hi : ∃ i, Try.prog.info? e = some i ∧ i.zero = some z ∧ i.size = 1 ∧ i.bytes = bytes) (hz : z.cells.size = 1) (hby : bytes ≤ 1000)
    (w : World) (base : Nat) (v : Value) (n : Nat) (xs : List Value) (hown : w.ownsRow base e 1 v n xs) (u : Value) (ys : List Value) (hu : Sl w u ys) (h1 : ∀ y ∈ ys, y.oneCell' = true) (hn : n ≤ 1000000) (hm : ys.length ≤ 1000000) (hb : base ≤ w.heap.size) :
    ∃ A' c' w', (Builtin.append_ #[t, t] ty #[v, u]).run Try.prog w = .ok (.slice A' (n + ys.length) c') w' ∧ w'.ownsRow base e 1 (.slice A' (n + ys.length) c') (n + ys.length) (xs ++ ys) ∧
      w.grownBy w' v.ownBlock ∧ ((Value.slice A' (n + ys.length) c').ownBlock = v.ownBlock ∨ ∃ r, (Value.slice A' (n + ys.length) c').ownBlock = some r ∧ w.heap.size ≤ r) := by
  obtain ⟨i, hi, hz', hs, hb'⟩ := hi
  obtain ⟨A, m, cap, rfl, hl, hc1, hc2, hcells⟩ := hu
  cases A with
  | none =>
    have hm0 : ys = [] := by
      rcases Nat.eq_zero_or_pos m with h0 | h0
      · exact List.length_eq_zero_iff.1 (by omega)
      · obtain ⟨_, _, h, -⟩ := hcells h0; cases h
    subst hm0
    obtain ⟨A', c', rfl⟩ := owns_form hown
    have hm1 : m = 0 := hl
    subst hm1
    exact ⟨A', c', w, run_append_none w base t ty e i ht hi hs _ n xs cap hown, by simpa using hown, World.grownBy.refl w _, .inl rfl⟩
  | some a =>
    obtain ⟨v', w', hr, hown', hg, -, hw⟩ := run_append_own_at (P := Try.prog) w base t ty e i z 1 bytes ht hi hz' hs hb' hz (by omega) v n xs hown a m cap ys (by omega) (fun j y hy => by
        have hj := (List.getElem?_eq_some_iff.1 hy).1
        obtain ⟨b, off, ha, hr⟩ := hcells (by omega)
        rw [Option.some.inj ha]
        have h3 := hr j y hy
        rcases Nat.eq_zero_or_pos j with h0 | h0
        · subst h0; simpa [Addr.add] using h3
        · simpa [Addr.add, show j ≠ 0 by omega] using h3) h1 (by unfold maxLen; omega)
      (by have : (n + m) * bytes ≤ 2000000 * 1000 := Nat.mul_le_mul (by omega) hby
          omega) hb
    obtain ⟨A', c', rfl⟩ := owns_form hown'
    have hm1 : m = ys.length := by omega
    subst hm1
    refine ⟨A', c', w', hr, hown', hg, ?_⟩
    rcases hw with hw | hw
    · exact .inl hw
    · exact .inr ⟨_, hw, Nat.le_refl _⟩
theorem app_ints (ty t : TypeId) (ht : Try.prog.underlying t = some (.slice 3)) (w : World) (base : Nat) (v : Value) (xs : List Int) (h : OwnI base w v xs) (u : Value) (ys : List Int) (hu : IntsAt w u ys) (hx : xs.length ≤ 1000000) (hy : ys.length ≤ 1000000) (hb : base ≤ w.heap.size) :
    ∃ A' c' w', (Builtin.append_ #[t, t] ty #[v, u]).run Try.prog w = .ok (.slice A' (xs ++ ys).length c') w' ∧ OwnI base w' (.slice A' (xs ++ ys).length c') (xs ++ ys) ∧
      w.grownBy w' v.ownBlock ∧ ((Value.slice A' (xs ++ ys).length c').ownBlock = v.ownBlock ∨ ∃ r, (Value.slice A' (xs ++ ys).length c').ownBlock = some r ∧ w.heap.size ≤ r) := by
  obtain ⟨A', c', w', hr, ho, hg, hw⟩ := run_app (ty := ty) ht info3p rfl (by omega) w base v xs.length (ints xs) h u (ints ys) hu.1 (fun y hy => by
    obtain ⟨z, -, rfl⟩ := List.mem_map.1 hy; rfl) hx (by rw [length_ints]; exact hy) hb
  rw [length_ints] at hr ho hw
  refine ⟨A', c', w', by rw [List.length_append]; exact hr, ?_, hg, by rw [List.length_append]; exact hw⟩
  show w'.ownsRow base 3 1 _ (xs ++ ys).length (ints (xs ++ ys))
  rw [ints_app, List.length_append]
  exact ho
end Go.Proofs
namespace Go.Proofs
open Go.RowKit Go.Shelf Go.Proofs.Ct Go.Maps
def usB (ops : Array Oper) (N : Nat) (us : Nat → Nat → Bool) : Bool := (List.range N).all fun i => (List.range N).all fun j => !us i j || (match ops[i]? with | some o => o.after.toList.any fun e => decide (e.on = j) && Region.binds .any e | none => false)
theorem us_of {ops : Array Oper} {N : Nat} {us : Nat → Nat → Bool} (h : usB ops N us = true) : ∀ i j, i < N → j < N → us i j = true → ∀ o, ops[i]? = some o → ∃ e ∈ o.after.toList, e.on = j ∧ Region.binds .any e = true := fun i j hi hj hu o ho => by
  unfold usB at h
  rw [List.all_eq_true] at h
  have h1 := h i (by simpa using hi)
  rw [List.all_eq_true] at h1
  have h2 := h1 j (by simpa using hj)
  rw [hu, ho] at h2
  simp only [Bool.not_true, Bool.false_or, List.any_eq_true, Bool.and_eq_true, decide_eq_true_eq] at h2
  obtain ⟨e, he, h3, h4⟩ := h2
  exact ⟨e, he, h3, h4⟩
def uqB (N : Nat) (wr : Nat → Bool) (us : Nat → Nat → Bool) : Bool := (List.range N).all fun i => (List.range N).all fun i' => (List.range N).all fun j => !wr j || !us i j || !us i' j || i == i'
theorem uq_of {N : Nat} {wr : Nat → Bool} {us : Nat → Nat → Bool} (h : uqB N wr us = true) : ∀ i i' j, i < N → i' < N → j < N → wr j = true → us i j = true → us i' j = true → i = i' := fun i i' j hi hi' hj h1 h2 h3 => by
  unfold uqB at h
  rw [List.all_eq_true] at h
  have k1 := h i (by simpa using hi)
  rw [List.all_eq_true] at k1
  have k2 := k1 i' (by simpa using hi')
  rw [List.all_eq_true] at k2
  have k3 := k2 j (by simpa using hj)
  rw [h1, h2, h3] at k3
  simpa using k3
/-- what an operation may do: it turns blocks of the slots that it takes alone, and makes new ones -/
structure Step (N : Nat) (wr : Nat → Bool) (us : Nat → Nat → Bool) (O : Nat → Nat → Prop) (i : Nat) (O' : Nat → Prop) (w w' : World) : Prop where
  size : w.heap.size ≤ w'.heap.size
  keep : ∀ k, k < w.heap.size → (∀ j, j < N → us i j = true → wr j = true → ¬ O j k) → w'.heap[k]? = w.heap[k]?
  foot : ∀ k, O' k → k < w'.heap.size ∧ (w.heap.size ≤ k ∨ ∃ j, j < N ∧ us i j = true ∧ O j k ∧ (wr i = true → wr j = true))
section
variable {F : Fence} {n : Nat} {P : Program} {ops : Array Oper} {Q : Exit → Act → World → Prop}
theorem wpIn_region_own {id : Nat} {a0 : Act} {w : World} (hm : P.follows .mixedOrders = true) (N : Nat) (hN : ops.size = N) (dm : Nat → Option Tmp) (hlex : ∀ (i : Nat) (o : Oper), ops[i]? = some o → ∀ e ∈ o.after.toList, Region.binds .any e = true → e.on < i)
    (base : Nat) (wr : Nat → Bool) (us : Nat → Nat → Bool) (S : World → Prop) (Φ : Nat → Value → (Nat → Prop) → World → Prop)
    (hus : usB ops N us = true) (huq : uqB N wr us = true)
    (hdm : ∀ i j t, i < N → j < N → dm i = some t → dm j = some t → i = j)
    (hst : ∀ (j : Nat) (v : Value) (O : Nat → Prop) (W W' : World), j < N → (∀ k, O k → k < W.heap.size) → (∀ k, O k → W'.heap[k]? = W.heap[k]?) → W.heap.size ≤ W'.heap.size → S W → S W' → Φ j v O W → Φ j v O W')
    (hsz : ∀ i t, i < N → dm i = some t → t < a0.tmps.size) (hbase : base ≤ w.heap.size) (h0 : S w.drew)
    (hop : ∀ (O : Nat → Nat → Prop) (ls : Nat → Bool) (i : Nat) (o : Oper) (a : Act) (w : World), i < N → ops[i]? = some o → S w → base ≤ w.heap.size → ls i = false → Part a0 dm N ls a →
      (∀ j, j < N → us i j = true → Φ j (slotv a (dm j)) (O j) w ∧ ∀ k, O j k → base ≤ k ∧ k < w.heap.size) →
      (∀ j j' k, j < N → j' < N → us i j = true → us i j' = true → j ≠ j' → wr j = true → O j k → ¬ O j' k) →
      wpOpIn F n P ops Q i (fun a' w' => ∃ v O', a' = a.put (dm i) v ∧ S w' ∧ (dm i = none → v = undef) ∧ Step N wr us O i O' w w' ∧ Φ i v O' w') a w)
    (hend : ∀ (O : Nat → Nat → Prop) (ls : Nat → Bool) (a : Act) (w : World), (∀ i, i < N → ls i = true) → S w → base ≤ w.heap.size → Part a0 dm N ls a → (∀ j, j < N → (wr j = false ∨ ∀ i, i < N → us i j = false) → Φ j (slotv a (dm j)) (O j) w ∧ ∀ k, O j k → base ≤ k ∧ k < w.heap.size) → Q .normal a w) :
    (Code.region id ops true).wpIn F n P Q a0 w := by
  subst hN
  have hus' := us_of hus
  have huq' := uq_of huq
  refine wpIn_region_any hm ?_
  let lv : (Nat → Bool) → Nat → Prop := fun ls j => ls j = true ∧ ∀ i, i < ops.size → us i j = true → wr j = true → ls i = false
  refine wpAnyIn_inv (fun listed a w => Closed ops listed ∧ S w ∧ base ≤ w.heap.size ∧ Part a0 dm ops.size (fun j => listed.getD j false) a ∧ ∃ O : Nat → Nat → Prop,
    (∀ j k, j < ops.size → listed.getD j false = true → O j k → base ≤ k ∧ k < w.heap.size) ∧
    (∀ j j' k, j < ops.size → j' < ops.size → lv (fun j => listed.getD j false) j → lv (fun j => listed.getD j false) j' → j ≠ j' → wr j = true → O j k → ¬ O j' k) ∧
    (∀ j, j < ops.size → lv (fun j => listed.getD j false) j → Φ j (slotv a (dm j)) (O j) w)) ?_ ?_ ops.size _ a0 _ (by simp) ?_ ⟨fun i o ho h => ?_, h0, hbase, ⟨rfl, rfl, fun _ _ => rfl⟩, fun _ _ => False, fun j k _ _ h => h.elim, fun j j' k _ _ _ _ _ _ h => h.elim, fun j hj h => ?_⟩
  · rintro listed a w i hls ⟨hcl, hS, hbw, hP, O, hOb, hOd, hsl⟩ hi
    obtain ⟨h1, h2, o, ho, hpre⟩ := ready_mem hi
    rw [getD_true_false (by omega)] at h2
    have hsetD : ∀ j, (listed.setIfInBounds i true).getD j false = if i = j then true else listed.getD j false := fun j => getD_set_listed (by omega)
    have hcl' : Closed ops (listed.setIfInBounds i true) := fun j oj hoj hl e he hb => by
      rw [hsetD] at hl ⊢
      by_cases eij : i = j
      · subst eij
        rw [ho] at hoj; cases hoj
        have := hpre e he hb
        split
        · rfl
        · exact this
      · rw [if_neg eij] at hl
        have := hcl j oj hoj hl e he hb
        split
        · rfl
        · exact this
    -- what i takes is live
    have hlive : ∀ j, j < ops.size → us i j = true → lv (fun j => listed.getD j false) j := fun j hj hu => by
      obtain ⟨e, he, rfl, hb⟩ := hus' i j h1 hj hu o ho
      refine ⟨hpre e he hb, fun i' hi' hu' hw => ?_⟩
      have := huq' i i' e.on h1 hi' hj hw hu hu'
      subst this
      exact h2
    have hwp := hop O _ i o a w h1 ho hS hbw h2 hP (fun j hj hu => ⟨hsl j hj (hlive j hj hu), fun k hk => hOb j k hj (hlive j hj hu).1 hk⟩) (fun j j' k hj hj' hu hu' hne hw => hOd j j' k hj hj' (hlive j hj hu) (hlive j' hj' hu') hne hw)
    refine wpOpIn_mono (fun a' w' h => ?_) hwp
    obtain ⟨v, O', rfl, hS', hvn, hstep, hv⟩ := h
    have hP' := hP.put h1 v
    rw [show (fun j => if i = j then true else listed.getD j false) = (fun j => (listed.setIfInBounds i true).getD j false) from (funext hsetD).symm] at hP'
    -- what is live behind the step was live, and i has not taken it
    have hback : ∀ j, j < ops.size → i ≠ j → lv (fun j => (listed.setIfInBounds i true).getD j false) j → lv (fun j => listed.getD j false) j ∧ (us i j = true → wr j = false) := fun j hj hne hl => by
      obtain ⟨l1, l2⟩ := hl
      have l1' : (listed.setIfInBounds i true).getD j false = true := l1
      rw [hsetD, if_neg hne] at l1'
      refine ⟨⟨l1', fun i' hi' hu hw => ?_⟩, fun hu => ?_⟩
      · have h3 : (listed.setIfInBounds i true).getD i' false = false := l2 i' hi' hu hw
        rw [hsetD] at h3
        split at h3
        · cases h3
        · exact h3
      · rcases hw : wr j with _ | _
        · rfl
        · have h3 : (listed.setIfInBounds i true).getD i false = false := l2 i h1 hu hw
          rw [hsetD, if_pos rfl] at h3
          cases h3
    refine ⟨hcl', hS', Nat.le_trans hbw hstep.size, hP', fun j => if i = j then O' else O j, fun j k hj hl hk => ?_, fun j j' k hj hj' hl hl' hne hw hk hk' => ?_, fun j hj hl => ?_⟩
    · replace hk : (if i = j then O' else O j) k := hk
      by_cases e : i = j
      · rw [if_pos e] at hk
        obtain ⟨h3, h4⟩ := hstep.foot k hk
        refine ⟨?_, h3⟩
        rcases h4 with h4 | ⟨j0, h5, h6, h7, -⟩
        · omega
        · exact (hOb j0 k h5 (hlive j0 h5 h6).1 h7).1
      · rw [if_neg e] at hk
        rw [hsetD, if_neg e] at hl
        have := hOb j k hj hl hk
        exact ⟨this.1, Nat.lt_of_lt_of_le this.2 hstep.size⟩
    · replace hk : (if i = j then O' else O j) k := hk
      replace hk' : (if i = j' then O' else O j') k := hk'
      by_cases e : i = j
      · subst e
        rw [if_pos rfl] at hk
        rw [if_neg hne] at hk'
        obtain ⟨b1, b2⟩ := hback j' hj' hne hl'
        obtain ⟨h3, h4⟩ := hstep.foot k hk
        rcases h4 with h4 | ⟨j0, h5, h6, h7, h8⟩
        · have := (hOb j' k hj' b1.1 hk').2
          omega
        · have hw0 := h8 hw
          by_cases e0 : j0 = j'
          · subst e0
            rw [b2 h6] at hw0; cases hw0
          · exact hOd j0 j' k h5 hj' (hlive j0 h5 h6) b1 e0 hw0 h7 hk'
      · rw [if_neg e] at hk
        obtain ⟨b1, b2⟩ := hback j hj e hl
        by_cases e' : i = j'
        · subst e'
          rw [if_pos rfl] at hk'
          obtain ⟨h3, h4⟩ := hstep.foot k hk'
          rcases h4 with h4 | ⟨j0, h5, h6, h7, -⟩
          · have := (hOb j k hj b1.1 hk).2
            omega
          · by_cases e0 : j = j0
            · subst e0
              rw [b2 h6] at hw; cases hw
            · exact hOd j j0 k hj h5 b1 (hlive j0 h5 h6) e0 hw hk h7
        · rw [if_neg e'] at hk'
          exact hOd j j' k hj hj' b1 (hback j' hj' e' hl').1 hne hw hk hk'
    · show Φ j (slotv (a.put (dm i) v) (dm j)) (if i = j then O' else O j) w'
      by_cases e : i = j
      · subst e
        rw [if_pos rfl]
        have : slotv (a.put (dm i) v) (dm i) = v := by
          cases hdi : dm i with
          | none => rw [hvn hdi]; rfl
          | some t => exact put_getD_same _ _ _ (by rw [hP.size]; exact hsz i t h1 hdi)
        rw [this]
        exact hv
      · rw [if_neg e]
        obtain ⟨b1, b2⟩ := hback j hj e hl
        have hv' : slotv (a.put (dm i) v) (dm j) = slotv a (dm j) := by
          cases hdj : dm j with
          | none => rfl
          | some t =>
            cases hdi : dm i with
            | none => rfl
            | some t' => exact put_getD_ne _ _ _ _ (fun e' => e (hdm i j t h1 hj (by rw [hdi, e']) hdj))
        rw [hv']
        refine hst j _ _ w w' hj (fun k hk => (hOb j k hj b1.1 hk).2) (fun k hk => hstep.keep k (hOb j k hj b1.1 hk).2 fun j0 h5 h6 h7 h8 => ?_) hstep.size hS hS' (hsl j hj b1)
        by_cases e0 : j0 = j
        · subst e0
          rw [b2 h6] at h7; cases h7
        · exact hOd j0 j k h5 hj (hlive j0 h5 h6) b1 e0 h7 h8 hk
  · rintro listed a w hls ⟨hcl, hS, hbw, hP, O, hOb, hOd, hsl⟩ hr
    have hready : ∀ i, i < ops.size → listed.getD i false = true := by
      intro i
      induction i using Nat.strongRecOn with
      | _ i ih =>
        intro hi
        rcases hl : listed.getD i false with _ | _
        · have hmem : i ∈ Region.ready .any ops listed := by
            simp only [Region.ready, List.mem_filter, List.mem_range, Bool.and_eq_true, Bool.not_eq_true']
            refine ⟨hi, by rw [getD_true_false (by omega)]; exact hl, ?_⟩
            rw [Array.getElem?_eq_getElem hi]
            simp only [Option.map_some, Option.getD_some]
            rw [Array.all_eq_true_iff_forall_mem]
            intro e he
            by_cases hb : Region.binds .any e = true
            · have hlt := hlex i _ (Array.getElem?_eq_getElem hi) e (by simpa using he) hb
              simp [ih e.on hlt (by omega)]
            · simp [hb]
          rw [hr] at hmem; cases hmem
        · rfl
    refine hend O _ a w hready hS hbw hP (fun j hj hd => ⟨hsl j hj ⟨hready j hj, fun i hi hu hw => ?_⟩, fun k hk => hOb j k hj (hready j hj) hk⟩)
    rcases hd with hd | hd
    · rw [hd] at hw; cases hw
    · rw [hd i hi] at hu; cases hu
  · simp
  · have : (Array.replicate ops.size false).getD i false = false := by
      simp only [Array.getD_eq_getD_getElem?, Array.getElem?_replicate]; split <;> rfl
    rw [this] at h; cases h
  · have h1 := h.1
    have : (Array.replicate ops.size false).getD j false = false := by
      simp only [Array.getD_eq_getD_getElem?, Array.getElem?_replicate]; split <;> rfl
    have h2 : (Array.replicate ops.size false).getD j false = true := h1
    rw [this] at h2; cases h2
end
end Go.Proofs
namespace Go.Proofs
open Go.RowKit Go.Shelf Go.Proofs.Ct Go.Maps
/-- u reads as the rows ys by the blocks of F -/
def TabS (F : Nat → Prop) (w : World) (u : Value) (ys : List (List Int)) : Prop := ∃ vs, (∀ w', Ag F w w' → Sl w' u vs) ∧ RowsF F w vs ys
/-- reading alone -/
def RdT (F : Nat → Prop) (w : World) (u : Value) (ys : List (List Int)) : Prop := ∀ w', Ag F w w' → Tab w' u ys
section
variable {F G : Nat → Prop} {w w' : World} {u : Value} {ys : List (List Int)}
theorem TabS.keep (h : TabS F w u ys) (ha : Ag F w w') : TabS F w' u ys := by
  obtain ⟨vs, h1, h2⟩ := h
  exact ⟨vs, fun w'' h' => h1 w'' (ha.trans h'), h2.keep ha fun _ h => h⟩
theorem TabS.mono (h : TabS F w u ys) (hg : ∀ k, F k → G k) : TabS G w u ys := by
  obtain ⟨vs, h1, h2⟩ := h
  exact ⟨vs, fun w' h' => h1 w' fun k hk => h' k (hg k hk), h2.keep (Ag.refl _ _) hg⟩
theorem TabS.tab (h : TabS F w u ys) : Tab w u ys := by
  obtain ⟨vs, h1, h2⟩ := h
  exact ⟨vs, h1 w (Ag.refl _ _), h2.1, fun i hi => let ⟨x, hx, hr⟩ := h2.2 i hi; ⟨x, hx, hr.at_⟩⟩
theorem TabS.rd (h : TabS F w u ys) : RdT F w u ys := fun _ ha => (h.keep ha).tab
theorem RdT.keep (h : RdT F w u ys) (ha : Ag F w w') : RdT F w' u ys := fun w'' h' => h w'' (ha.trans h')
theorem RdT.mono (h : RdT F w u ys) (hg : ∀ k, F k → G k) : RdT G w u ys := fun w' h' => h w' fun k hk => h' k (hg k hk)
theorem RdT.tab (h : RdT F w u ys) : Tab w u ys := h w (Ag.refl _ _)
theorem TabS.of_own {e : TypeId} {base : Nat} (h : OwnT e base F w u ys) (hv : ∀ r, u.ownBlock = some r → G r) (hg : ∀ k, F k → G k) : TabS G w u ys := by
  obtain ⟨vs, h1, h2⟩ := h
  exact ⟨vs, fun w' ha => sl_of_owns (owns_keep h1 fun r hr => ha r (hv r hr)), h2.keep (Ag.refl _ _) hg⟩
end
/-- what a slot holds -/
inductive FP where
  | any | eq (v : Value) | ints (l : List Int) | tab (l : List (List Int)) | rd (l : List (List Int)) | own (l : List Int) | ownT (l : List (List Int)) | box (e : TypeId) (cs : Array Value) | enum (t : List (List Int)) (a b c : Int) | tup (l : List Int) (e : Int) | tupT (l : List (List Int)) (e : Int)
def Fb (base : Nat) (O : Nat → Prop) : Nat → Prop := fun k => k < base ∨ O k
def FP.holds (base : Nat) : FP → Value → (Nat → Prop) → World → Prop
  | .any, _, _, _ => True
  | .eq u, v, _, _ => v = u
  | .ints l, v, O, w => ∃ A c, v = .slice A l.length c ∧ IntsF (Fb base O) w (.slice A l.length c) l
  | .tab l, v, O, w => ∃ A c, v = .slice A l.length c ∧ TabS (Fb base O) w (.slice A l.length c) l
  | .rd l, v, O, w => ∃ A c, v = .slice A l.length c ∧ RdT (Fb base O) w (.slice A l.length c) l
  | .own l, v, O, w => ∃ A c, v = .slice A l.length c ∧ OwnI base w (.slice A l.length c) l ∧ ∀ r, (Value.slice A l.length c).ownBlock = some r → O r
  | .ownT l, v, O, w => ∃ A c F, v = .slice A l.length c ∧ OwnT 25 base F w (.slice A l.length c) l ∧ (∀ k, F k → Fb base O k ∧ k < w.heap.size ∧ (Value.slice A l.length c).ownBlock ≠ some k) ∧ ∀ r, (Value.slice A l.length c).ownBlock = some r → O r
  | .box e cs, v, O, w => ∃ q, v = .pointer (some ⟨q, 0, none⟩) ∧ O q ∧ w.heap[q]? = some (.cells cs e (0, 0))
  | .enum t a b c, v, O, w => ∃ A n, v = .tuple #[.slice A t.length n, .agg #[.int .i64 a, .int .i64 b, .int .i64 0], .int .i64 c] ∧ RdT (Fb base O) w (.slice A t.length n) t
  | .tup l e, v, O, w => ∃ A n, v = .tuple #[.slice A l.length n, .int .i64 e] ∧ IntsF (Fb base O) w (.slice A l.length n) l
  | .tupT l e, v, O, w => ∃ A n, v = .tuple #[.slice A l.length n, .int .i64 e] ∧ RdT (Fb base O) w (.slice A l.length n) l
section
variable {base : Nat} {O O' : Nat → Prop} {W0 w w' : World} {v : Value}
theorem ag_fb (_hb : W0.heap.size = base) (h1 : Below base W0 w) (h2 : Below base W0 w') (h : ∀ k, O k → w'.heap[k]? = w.heap[k]?) : Ag (Fb base O) w w' := fun k hk => by
  rcases hk with hk | hk
  · rw [h1.block k (by omega), h2.block k (by omega)]
  · exact h k hk
theorem FP.keep {p : FP} (hb : W0.heap.size = base) (h1 : Below base W0 w) (h2 : Below base W0 w') (hs : w.heap.size ≤ w'.heap.size) (h : ∀ k, O k → w'.heap[k]? = w.heap[k]?) : p.holds base v O w → p.holds base v O w' := by
  have ha := ag_fb hb h1 h2 h
  cases p with
  | any => exact id
  | eq u => exact id
  | ints l => exact fun ⟨A, c, e, k⟩ => ⟨A, c, e, k.keep ha⟩
  | tab l => exact fun ⟨A, c, e, k⟩ => ⟨A, c, e, k.keep ha⟩
  | rd l => exact fun ⟨A, c, e, k⟩ => ⟨A, c, e, k.keep ha⟩
  | own l => exact fun ⟨A, c, e, k, k2⟩ => ⟨A, c, e, owns_keep k fun r hr => h r (k2 r hr), k2⟩
  | ownT l => exact fun ⟨A, c, F, e, k, k2, k3⟩ => ⟨A, c, F, e, k.keep (fun r hr => h r (k3 r hr)) (fun x hx => ha x (k2 x hx).1) (fun _ h => h), fun x hx => ⟨(k2 x hx).1, Nat.lt_of_lt_of_le (k2 x hx).2.1 hs, (k2 x hx).2.2⟩, k3⟩
  | box e cs => exact fun ⟨q, e, k, k2⟩ => ⟨q, e, k, (h q k).trans k2⟩
  | enum t a b c => exact fun ⟨A, n, e, k⟩ => ⟨A, n, e, k.keep ha⟩
  | tup l x => exact fun ⟨A, n, e, k⟩ => ⟨A, n, e, k.keep ha⟩
  | tupT l x => exact fun ⟨A, n, e, k⟩ => ⟨A, n, e, k.keep ha⟩
theorem FP.mono {p : FP} (hO : ∀ k, O k → O' k) : p.holds base v O w → p.holds base v O' w := by
  have hF : ∀ k, Fb base O k → Fb base O' k := fun k hk => hk.imp id (hO k)
  cases p with
  | any => exact id
  | eq u => exact id
  | ints l => exact fun ⟨A, c, e, k⟩ => ⟨A, c, e, k.mono hF⟩
  | tab l => exact fun ⟨A, c, e, k⟩ => ⟨A, c, e, k.mono hF⟩
  | rd l => exact fun ⟨A, c, e, k⟩ => ⟨A, c, e, k.mono hF⟩
  | own l => exact fun ⟨A, c, e, k, k2⟩ => ⟨A, c, e, k, fun r hr => hO r (k2 r hr)⟩
  | ownT l => exact fun ⟨A, c, F, e, k, k2, k3⟩ => ⟨A, c, F, e, k, fun x hx => ⟨hF x (k2 x hx).1, (k2 x hx).2⟩, fun r hr => hO r (k3 r hr)⟩
  | box e cs => exact fun ⟨q, e, k, k2⟩ => ⟨q, e, hO q k, k2⟩
  | enum t a b c => exact fun ⟨A, n, e, k⟩ => ⟨A, n, e, k.mono hF⟩
  | tup l x => exact fun ⟨A, n, e, k⟩ => ⟨A, n, e, k.mono hF⟩
  | tupT l x => exact fun ⟨A, n, e, k⟩ => ⟨A, n, e, k.mono hF⟩
end
/-- all that an operation may claim as its own -/
def Mx (N : Nat) (wr : Nat → Bool) (us : Nat → Nat → Bool) (O : Nat → Nat → Prop) (i : Nat) (w w' : World) : Nat → Prop := fun k => k < w'.heap.size ∧ (w.heap.size ≤ k ∨ ∃ j, j < N ∧ us i j = true ∧ O j k ∧ (wr i = true → wr j = true))
section
variable {N : Nat} {wr : Nat → Bool} {us : Nat → Nat → Bool} {O : Nat → Nat → Prop} {i : Nat} {w w' : World}
theorem Step.below (h : Below w.heap.size w w') : Step N wr us O i (Mx N wr us O i w w') w w' := ⟨h.size, fun k hk _ => h.block k hk, fun _ h => h⟩
theorem Step.same : Step N wr us O i (Mx N wr us O i w w) w w := Step.below (Below.refl _ _)
theorem Step.grown {row : Option Nat} (h : w.grownBy w' row) (hr : ∀ r, row = some r → ∃ j, j < N ∧ us i j = true ∧ wr j = true ∧ O j r) : Step N wr us O i (Mx N wr us O i w w') w w' := ⟨h.size, fun k hk hn => h.block k hk fun e => by
  obtain ⟨j, h1, h2, h3, h4⟩ := hr k e.symm
  exact hn j h1 h2 h3 h4, fun _ h => h⟩
theorem Mx.fresh {k : Nat} (h1 : w.heap.size ≤ k) (h2 : k < w'.heap.size) : Mx N wr us O i w w' k := ⟨h2, .inl h1⟩
theorem Mx.of {j k : Nat} (hj : j < N) (hu : us i j = true) (hw : wr i = true → wr j = true) (hO : O j k) (hk : k < w'.heap.size) : Mx N wr us O i w w' k := ⟨hk, .inr ⟨j, hj, hu, hO, hw⟩⟩
end
theorem grown_below {w w' W0 : World} {base : Nat} {row : Option Nat} (hb : W0.heap.size = base) (h0 : Below base W0 w) (h : w.grownBy w' row) (hr : ∀ r, row = some r → base ≤ r) : Below base W0 w' :=
  ⟨h.os.trans h0.os, h.tape.trans h0.tape, h.output.trans h0.output, Nat.le_trans h0.size h.size, fun k hk => (h.block k (by have := h0.size; omega) fun e => by have := hr k e.symm; omega).trans (h0.block k hk)⟩
/-- append of rows -/
theorem app_rows {t ty : TypeId} (ht : Try.prog.underlying t = some (.slice 25)) (w : World) (base : Nat) (F : Nat → Prop) (v : Value) (xs : List (List Int)) (h : OwnT 25 base F w v xs) (u : Value) (ys : List (List Int)) (G : Nat → Prop) (hu : TabS G w u ys)
    (hF : ∀ k, F k → k < w.heap.size ∧ v.ownBlock ≠ some k) (hG : ∀ k, G k → k < w.heap.size ∧ v.ownBlock ≠ some k) (hx : xs.length ≤ 1000000) (hy : ys.length ≤ 1000000) (hb : base ≤ w.heap.size) :
    ∃ A' c' w', (Builtin.append_ #[t, t] ty #[v, u]).run Try.prog w = .ok (.slice A' (xs ++ ys).length c') w' ∧ OwnT 25 base (fun k => F k ∨ G k) w' (.slice A' (xs ++ ys).length c') (xs ++ ys) ∧
      w.grownBy w' v.ownBlock ∧ ((Value.slice A' (xs ++ ys).length c').ownBlock = v.ownBlock ∨ ∃ r, (Value.slice A' (xs ++ ys).length c').ownBlock = some r ∧ w.heap.size ≤ r) := by
  obtain ⟨vals, h1, h2⟩ := h
  obtain ⟨vs, h3, h4⟩ := hu
  have hone : ∀ y ∈ vs, y.oneCell' = true := fun y hy => by
    obtain ⟨j, hj, rfl⟩ := List.mem_iff_getElem.1 hy
    obtain ⟨x, hx, hr⟩ := h4.2 j (by rw [← h4.1]; exact hj)
    rw [List.getElem?_eq_getElem hj] at hx
    obtain ⟨A, c, e, -⟩ := hr.at_.open_
    rw [Option.some.inj hx, e]; rfl
  obtain ⟨A', c', w', hr, ho, hg, hw⟩ := run_app (ty := ty) ht info25p rfl (by omega) w base v xs.length vals h1 u vs (h3 w (Ag.refl _ _)) hone hx (by rw [h4.1]; exact hy) hb
  rw [h4.1, ← List.length_append] at hr ho hw
  refine ⟨A', c', w', hr, ⟨vals ++ vs, ho, ?_⟩, hg, hw⟩
  have aF := Ag.grown hg hF
  have aG := Ag.grown hg hG
  refine ⟨by rw [List.length_append, List.length_append, h2.1, h4.1], fun j hj => ?_⟩
  rcases Nat.lt_or_ge j xs.length with hl | hl
  · obtain ⟨x, hx, hr⟩ := h2.2 j hl
    refine ⟨x, by rw [List.getElem?_append_left (by rw [h2.1]; exact hl)]; exact hx, ?_⟩
    rw [show (xs ++ ys).getD j [] = xs.getD j [] by simp [List.getD_eq_getElem?_getD, List.getElem?_append_left hl]]
    exact (hr.keep aF).mono fun k hk => .inl hk
  · obtain ⟨x, hx, hr⟩ := h4.2 (j - xs.length) (by rw [List.length_append] at hj; omega)
    refine ⟨x, by rw [List.getElem?_append_right (by rw [h2.1]; exact hl), h2.1]; exact hx, ?_⟩
    rw [show (xs ++ ys).getD j [] = ys.getD (j - xs.length) [] by simp [List.getD_eq_getElem?_getD, List.getElem?_append_right hl]]
    exact (hr.keep aG).mono fun k hk => .inr hk
section
variable {o : Oper} {a : Act} {w w' : World} {n : Nat} {v : Value}
theorem own_new (w : World) : OwnI w.heap.size (w.alloc (.cells #[] 3)) (.slice (some ⟨w.heap.size, 0, none⟩) 0 0) [] := by
  refine ⟨rfl, .inr ⟨w.heap.size, 0, #[], rfl, Nat.le_refl _, heap_alloc_new w _, Nat.le_refl _, by simp [maxLen], rfl, by simp [ints]⟩⟩
end
/-- what append gives, as facts of footprints -/
theorem FP.app_rows {t ty : TypeId} (ht : Try.prog.underlying t = some (.slice 25)) {w : World} {base : Nat} {O1 : Nat → Prop} {v : Value} {xs : List (List Int)} (h : (FP.ownT xs).holds base v O1 w) {u : Value} {ys : List (List Int)} {O2 : Nat → Prop} (hu : TabS (Fb base O2) w u ys)
    (h2 : ∀ k, O2 k → k < w.heap.size ∧ ¬ O1 k) (hx : xs.length ≤ 1000000) (hy : ys.length ≤ 1000000) (hb : base ≤ w.heap.size) :
    ∃ A' c' w', (Builtin.append_ #[t, t] ty #[v, u]).run Try.prog w = .ok (.slice A' (xs ++ ys).length c') w' ∧ w.grownBy w' v.ownBlock ∧ (∀ r, v.ownBlock = some r → O1 r ∧ base ≤ r) ∧
      ∀ O' : Nat → Prop, (∀ k, O1 k → k < w.heap.size → O' k) → (∀ k, O2 k → O' k) → (∀ k, w.heap.size ≤ k → k < w'.heap.size → O' k) → (FP.ownT (xs ++ ys)).holds base (.slice A' (xs ++ ys).length c') O' w' := by
  obtain ⟨A, c, F, rfl, o1, f1, r1⟩ := h
  have hown : ∀ r, (Value.slice A xs.length c).ownBlock = some r → base ≤ r ∧ r < w.heap.size := fun r hr => by
    obtain ⟨vals, k1, -⟩ := o1
    exact ⟨(owns_block k1 r hr).1, owns_lt k1 hr⟩
  obtain ⟨A', c', w', hr, ho, hg, hw⟩ := Go.Proofs.app_rows (ty := ty) ht w base F _ xs o1 u ys (Fb base O2) hu (fun k hk => (f1 k hk).2) (fun k hk => by
    rcases hk with hk | hk
    · exact ⟨by omega, fun e => by have := (hown k e).1; omega⟩
    · exact ⟨(h2 k hk).1, fun e => (h2 k hk).2 (r1 k e)⟩) hx hy hb
  refine ⟨A', c', w', hr, hg, fun r hr => ⟨r1 r hr, (hown r hr).1⟩, fun O' p1 p2 p3 => ⟨A', c', _, rfl, ho, fun k hk => ?_, fun r hr => ?_⟩⟩
  · have hks : k < w.heap.size ∧ (Value.slice A xs.length c).ownBlock ≠ some k ∧ Fb base O' k := by
      rcases hk with hk | hk | hk
      · obtain ⟨a1, a2, a3⟩ := f1 k hk
        exact ⟨a2, a3, a1.imp id fun h => p1 k h a2⟩
      · exact ⟨by omega, fun e => (by have := (hown k e).1; omega), .inl hk⟩
      · exact ⟨(h2 k hk).1, fun e => (h2 k hk).2 (r1 k e), .inr (p2 k hk)⟩
    refine ⟨hks.2.2, Nat.lt_of_lt_of_le hks.1 hg.size, fun e => ?_⟩
    rcases hw with hw | ⟨r, hw, hwr⟩
    · rw [hw] at e; exact hks.2.1 e
    · rw [hw] at e
      have := Option.some.inj e
      omega
  · rcases hw with hw | ⟨q, hw, hwq⟩
    · rw [hw] at hr
      exact p1 r (r1 r hr) (hown r hr).2
    · have e : q = r := by rw [hw] at hr; exact Option.some.inj hr
      subst e
      obtain ⟨vals, k1, -⟩ := ho
      exact p3 q hwq (owns_lt k1 hw)
theorem FP.app_ints {t ty : TypeId} (ht : Try.prog.underlying t = some (.slice 3)) {w : World} {base : Nat} {O1 : Nat → Prop} {v : Value} {xs : List Int} (h : (FP.own xs).holds base v O1 w) {u : Value} {ys : List Int} (hu : IntsAt w u ys)
    (hx : xs.length ≤ 1000000) (hy : ys.length ≤ 1000000) (hb : base ≤ w.heap.size) :
    ∃ A' c' w', (Builtin.append_ #[t, t] ty #[v, u]).run Try.prog w = .ok (.slice A' (xs ++ ys).length c') w' ∧ w.grownBy w' v.ownBlock ∧ (∀ r, v.ownBlock = some r → O1 r ∧ base ≤ r) ∧
      ∀ O' : Nat → Prop, (∀ k, O1 k → k < w.heap.size → O' k) → (∀ k, w.heap.size ≤ k → k < w'.heap.size → O' k) → (FP.own (xs ++ ys)).holds base (.slice A' (xs ++ ys).length c') O' w' := by
  obtain ⟨A, c, rfl, o1, r1⟩ := h
  obtain ⟨A', c', w', hr, ho, hg, hw⟩ := Go.Proofs.app_ints ty t ht w base _ xs o1 u ys hu hx hy hb
  refine ⟨A', c', w', hr, hg, fun r hr => ⟨r1 r hr, (owns_block o1 r hr).1⟩, fun O' p1 p3 => ⟨A', c', rfl, ho, fun r hr => ?_⟩⟩
  rcases hw with hw | ⟨q, hw, hwq⟩
  · rw [hw] at hr
    exact p1 r (r1 r hr) (owns_lt o1 hr)
  · have e : q = r := by rw [hw] at hr; exact Option.some.inj hr
    subst e
    exact p3 q hwq (owns_lt ho hw)
end Go.Proofs
namespace Go.Proofs
open Go.RowKit Go.Shelf Go.Proofs.Ct Go.Maps
theorem enumS (g : Int) (rels sub : List W) (limit : Int) (T : Tb) (a b c : Int) (h : enumE g rels sub limit = (T, (a, b), c)) (h1 : ∀ j, (sub.getD j []).length ≤ 100000) (h2 : sub.length ≤ 1000000) (W : World) (vr vs : Value) (hr : Tab W vr rels) (hs : Tab W vs sub) :
    Calls Try.prog 32 #[.agg #[.int .i64 g, vr], vs, .int .i64 limit] W fun e w' => (∃ u, e = .returned (.tuple #[u, .agg #[.int .i64 a, .int .i64 b, .int .i64 0], .int .i64 c]) ∧ Tab w' u T) ∧ Below W.heap.size W w' :=
  (enum32_any W vr vs g rels sub limit hr hs h1 h2).mono fun e w' (⟨⟨u, h5, h6⟩, h7⟩ : EnumPost g rels sub limit W e w') => by
    rw [h] at h5 h6
    exact ⟨⟨u, h5, h6⟩, h7⟩
end Go.Proofs
namespace Go.Proofs
open Go.RowKit Go.Shelf Go.Proofs.Ct Go.Maps
section
variable {o : Oper} {a : Act} {w w' : World} {n : Nat} {v : Value} {ops : Array Oper}
theorem idx_offs {T E : TypeId} (hu : Try.prog.underlying T = some (.slice E)) (hs : ∀ w, (sizeOf E).run Try.prog w = .ok 1 w) (g off m c i : Nat) (hi : i < m) (w : World) :
    (Instr.indexAt T (.slice (some ⟨g, off, none⟩) m c) (.int .i64 (i : Int))).run Try.prog w = .ok (.pointer (some ⟨g, off + i, none⟩)) w := by
  have h1 : (0 : Int) ≤ (i : Int) ∧ (i : Int) < (m : Int) := ⟨by omega, by omega⟩
  have h2 := Addr.add_mid g off i
  simp [Instr.indexAt, asIntOf, run_underlying hu, hs, h2, hi]
end
section
variable {N : Nat} {wr : Nat → Bool} {us : Nat → Nat → Bool} {O : Nat → Nat → Prop} {i j : Nat} {w w' W0 : World} {base : Nat} {v : Value}
end
theorem ints_one_new {N : Nat} {wr : Nat → Bool} {us : Nat → Nat → Bool} {O : Nat → Nat → Prop} {i : Nat} {w : World} {base : Nat} {x : Int} (hf : Fits [x]) : (FP.ints [x]).holds base (.slice (some ⟨w.heap.size, 0, none⟩) 1 1) (Mx N wr us O i w (w.alloc (.cells #[.int .i64 x] 3))) (w.alloc (.cells #[.int .i64 x] 3)) :=
  ⟨_, _, rfl, fun _ ha => ints_blk ((ha w.heap.size (.inr (Mx.fresh (Nat.le_refl _) (by simp)))).trans (heap_alloc_new w _)) hf rfl (by simp)⟩
end Go.Proofs
namespace Go.Proofs
open Go.RowKit Go.Shelf Go.Proofs.Ct Go.Maps
def knB (n m : Nat) : List Value := (List.range n).map fun i => Value.bool (decide (i < m))
/-- the state of least -/
structure LS (R : List (List Int)) (n : Nat) (W0 : World) (kb bb mk mb : Nat) (vl vn : Value) (ll ln : List Int) (w : World) : Prop where
  below : Below W0.heap.size W0 w
  kbl : W0.heap.size ≤ kb
  bbl : W0.heap.size ≤ bb
  known : w.heap[kb]? = some (.cells (knB n mk).toArray 4 (0, 0))
  best : ∃ (vals : List Value) (F : Nat → Prop), w.heap[bb]? = some (.cells vals.toArray 25 (0, 0)) ∧ vals.length = n ∧ (∀ j, j < mb → ∃ u, vals[j]? = some u ∧ IntsF F w u (R.getD j [])) ∧ (∀ k, F k → W0.heap.size ≤ k ∧ k < w.heap.size ∧ k ≠ kb ∧ k ≠ bb ∧ vn.ownBlock ≠ some k)
  lay : OwnI W0.heap.size w vl ll
  nxt : OwnI W0.heap.size w vn ln
  sep : ∀ r, vl.ownBlock = some r → vn.ownBlock ≠ some r
section
variable {R : List (List Int)} {n : Nat} {W0 w w' : World} {kb bb mk mb : Nat} {vl vn : Value} {ll ln : List Int}
theorem own3 {base : Nat} {v : Value} {xs : List Int} (h : OwnI base w v xs) {q : Nat} {C : Array Value} {T : TypeId} (hq : w.heap[q]? = some (.cells C T (0, 0))) (hT : T ≠ 3) : v.ownBlock ≠ some q := fun e => by
  obtain ⟨-, C', hC'⟩ := owns_block h q e
  rw [hq] at hC'
  injection hC' with h1
  injection h1 with h2 h3
  exact hT h3
theorem LS.ne (h : LS R n W0 kb bb mk mb vl vn ll ln w) : kb ≠ bb := fun e => by
  obtain ⟨vals, F, h1, -⟩ := h.best
  rw [← e, h.known] at h1
  injection h1 with h2
  injection h2 with h3 h4
  cases h4
theorem LS.lk (h : LS R n W0 kb bb mk mb vl vn ll ln w) : vl.ownBlock ≠ some kb ∧ vl.ownBlock ≠ some bb ∧ vn.ownBlock ≠ some kb ∧ vn.ownBlock ≠ some bb := by
  obtain ⟨vals, F, h1, -⟩ := h.best
  exact ⟨own3 h.lay h.known (by decide), own3 h.lay h1 (by decide), own3 h.nxt h.known (by decide), own3 h.nxt h1 (by decide)⟩
theorem LS.move (h : LS R n W0 kb bb mk mb vl vn ll ln w) (hb : Below w.heap.size w w') : LS R n W0 kb bb mk mb vl vn ll ln w' := by
  obtain ⟨vals, F, h1, h2, h3, h4⟩ := h.best
  exact ⟨bl3 h.below hb, h.kbl, h.bbl, (hb.block _ (Array.getElem?_eq_some_iff.1 h.known).1).trans h.known,
    ⟨vals, F, (hb.block _ (Array.getElem?_eq_some_iff.1 h1).1).trans h1, h2, fun j hj => let ⟨u, hu, hi⟩ := h3 j hj; ⟨u, hu, hi.keep (Ag.below hb fun k hk => (h4 k hk).2.1)⟩, fun k hk => ⟨(h4 k hk).1, Nat.lt_of_lt_of_le (h4 k hk).2.1 hb.size, (h4 k hk).2.2⟩⟩,
    owns_below h.lay hb, owns_below h.nxt hb, h.sep⟩
theorem LS.put (h : LS R n W0 kb bb mk mb vl vn ll ln w) {A : Option Addr} {c : Nat} {B : Nat} (hB : ∀ r, vn.ownBlock = some r → r < B) (hB2 : kb < B ∧ bb < B ∧ W0.heap.size ≤ B) (ho : OwnI B w (.slice A (R.getD mb []).length c) (R.getD mb [])) (hf : Fits (R.getD mb [])) (hn : mb < n) :
    LS R n W0 kb bb mk (mb + 1) vl vn ll ln (w.setCell ⟨bb, mb, none⟩ (.slice A (R.getD mb []).length c)) := by
  obtain ⟨vals, F, h1, h2, h3, h4⟩ := h.best
  obtain ⟨k1, k2, k3, k4⟩ := h.lk
  have hoo : ∀ k, k ≠ bb → (w.setCell ⟨bb, mb, none⟩ (.slice A (R.getD mb []).length c)).heap[k]? = w.heap[k]? := fun k hk => heap_setCell_other w _ k _ hk
  have hsz : (w.setCell ⟨bb, mb, none⟩ (.slice A (R.getD mb []).length c)).heap.size = w.heap.size := by simp [World.setCell]
  have hI := IntsF.of_own ho hf
  have hG : ∀ k, (Value.slice A (R.getD mb []).length c).ownBlock = some k → B ≤ k ∧ k < w.heap.size := fun k hk => ⟨(owns_block ho k hk).1, owns_lt ho hk⟩
  refine ⟨⟨h.below.os, h.below.tape, h.below.output, by rw [hsz]; exact h.below.size, fun k hk => (hoo k (by have := h.bbl; omega)).trans (h.below.block k hk)⟩, h.kbl, h.bbl, (hoo kb h.ne).trans h.known,
    ⟨vals.set mb (.slice A (R.getD mb []).length c), fun k => F k ∨ (Value.slice A (R.getD mb []).length c).ownBlock = some k, ?_, by simp [h2], fun j hj => ?_, fun k hk => ?_⟩,
    owns_keep h.lay fun r hr => hoo r fun e => k2 (by rw [hr, e]), owns_keep h.nxt fun r hr => hoo r fun e => k4 (by rw [hr, e]), h.sep⟩
  · rw [box_set h1]
    simp
  · by_cases e : j = mb
    · subst e
      exact ⟨_, by simp [h2, hn], (hI.keep fun k hk => hoo k fun e => by have := (hG k hk).1; omega).mono fun k hk => .inr hk⟩
    · obtain ⟨u, hu, hi⟩ := h3 j (by omega)
      refine ⟨u, by rw [List.getElem?_set, if_neg (fun h => e h.symm)]; exact hu, (hi.keep fun k hk => hoo k (h4 k hk).2.2.2.1).mono fun k hk => .inl hk⟩
  · rw [hsz]
    rcases hk with hk | hk
    · exact h4 k hk
    · obtain ⟨g1, g2⟩ := hG k hk
      exact ⟨by omega, g2, by omega, by omega, fun e => by have := hB k e; omega⟩
theorem LS.app (h : LS R n W0 kb bb mk mb vl vn ll ln w) {A : Option Addr} {c : Nat} {x : Int} (ho : OwnI W0.heap.size w' (.slice A (ln.length + 1) c) (ln ++ [x])) (hg : w.grownBy w' vn.ownBlock) (hw : (Value.slice A (ln.length + 1) c).ownBlock = vn.ownBlock ∨ ∃ r, (Value.slice A (ln.length + 1) c).ownBlock = some r ∧ w.heap.size ≤ r) :
    LS R n W0 kb bb mk mb vl (.slice A (ln.length + 1) c) ll (ln ++ [x]) w' := by
  obtain ⟨vals, F, h1, h2, h3, h4⟩ := h.best
  obtain ⟨k1, k2, k3, k4⟩ := h.lk
  have hk : ∀ k, k < w.heap.size → vn.ownBlock ≠ some k → w'.heap[k]? = w.heap[k]? := fun k h1 h2 => hg.block k h1 fun e => h2 e.symm
  have hkl := (Array.getElem?_eq_some_iff.1 h.known).1
  have hbl := (Array.getElem?_eq_some_iff.1 h1).1
  have hne : ∀ k, k < w.heap.size → vn.ownBlock ≠ some k → (Value.slice A (ln.length + 1) c).ownBlock ≠ some k := fun k h1 h2 e => by
    rcases hw with hw | ⟨r, hw, hr⟩
    · exact h2 (by rw [← hw]; exact e)
    · rw [hw] at e
      have := Option.some.inj e
      omega
  refine ⟨grown_below rfl h.below hg fun r hr => (owns_block h.nxt r hr).1, h.kbl, h.bbl, (hk kb hkl k3).trans h.known,
    ⟨vals, F, (hk bb hbl k4).trans h1, h2, fun j hj => let ⟨u, hu, hi⟩ := h3 j hj; ⟨u, hu, hi.keep fun k hF => hk k (h4 k hF).2.1 (h4 k hF).2.2.2.2⟩, fun k hF => ⟨(h4 k hF).1, Nat.lt_of_lt_of_le (h4 k hF).2.1 hg.size, (h4 k hF).2.2.1, (h4 k hF).2.2.2.1, hne k (h4 k hF).2.1 (h4 k hF).2.2.2.2⟩⟩,
    owns_keep h.lay fun r hr => hk r (owns_lt h.lay hr) (h.sep r hr), ho, fun r hr => hne r (owns_lt h.lay hr) (h.sep r hr)⟩
end
theorem info4p : ∃ i, Try.prog.info? 4 = some i ∧ i.zero = some (.bool false) ∧ i.size = 1 ∧ i.bytes = 1 := by
  have h : (Try.prog.info? 4).map (fun i => (i.zero, i.size, i.bytes)) = some (some (.bool false), 1, 1) := by kernel_rfl
  cases hq : Try.prog.info? 4 with
  | none => simp [hq] at h
  | some i => simp [hq] at h; exact ⟨i, rfl, h⟩
theorem made4 (n : Nat) : madeCells (Value.bool false).cells n = Array.replicate n (.bool false) := by
  apply Array.ext_getElem?
  intro k
  simp only [madeCells, Value.cells, Array.getElem?_map, Array.getElem?_range, Array.getElem?_replicate]
  by_cases h : k < n
  · simp [h, Nat.mod_one]
  · simp [h]
theorem make31r (w : World) (n : Nat) (hn : n ≤ 100000) : (Instr.makeSlice 31 (.int .i64 (n : Int)) (.int .i64 (n : Int))).run Try.prog w =
    .ok (.slice (some ⟨w.heap.size, 0, none⟩) n n) (w.alloc (.cells (Array.replicate n (.slice none 0 0)) 25)) := by
  obtain ⟨i, hi, hz, hs, hb⟩ := info25p
  have := run_makeSlice (P := Try.prog) w 31 25 i (.slice none 0 0) Try.underlying31 hi hz .i64 .i64 n n (by omega) (Int.le_refl _) (by rw [hs]; simp; omega) (by rw [hb]; omega) (by omega)
  rw [this, hs, Int.toNat_natCast, Nat.mul_one, made24]
theorem make138r (w : World) (n : Nat) (hn : n ≤ 100000) : (Instr.makeSlice 138 (.int .i64 (n : Int)) (.int .i64 (n : Int))).run Try.prog w =
    .ok (.slice (some ⟨w.heap.size, 0, none⟩) n n) (w.alloc (.cells (Array.replicate n (.bool false)) 4)) := by
  obtain ⟨i, hi, hz, hs, hb⟩ := info4p
  have := run_makeSlice (P := Try.prog) w 138 4 i (.bool false) Try.underlying138 hi hz .i64 .i64 n n (by omega) (Int.le_refl _) (by rw [hs]; simp; omega) (by rw [hb]; omega) (by omega)
  rw [this, hs, Int.toNat_natCast, Nat.mul_one, made4]
theorem knB_zero (n : Nat) : (knB n 0).toArray = Array.replicate n (.bool false) := by
  have : knB n 0 = List.replicate n (.bool false) := by
    apply List.ext_getElem
    · simp [knB]
    · intro i h1 h2; simp [knB]
  rw [this, List.toArray_replicate]
/-- best and known are made -/
theorem LS.start {R : List (List Int)} (hR : R.getD 0 [] = []) (w : World) (n : Nat) (hn : 1 ≤ n ∧ n ≤ 100000) : ∃ w1 w2 : World, (Instr.makeSlice 31 (.int .i64 (n : Int)) (.int .i64 (n : Int))).run Try.prog w = .ok (.slice (some ⟨w.heap.size, 0, none⟩) n n) w1 ∧
    (Instr.makeSlice 138 (.int .i64 (n : Int)) (.int .i64 (n : Int))).run Try.prog w1 = .ok (.slice (some ⟨w.heap.size + 1, 0, none⟩) n n) w2 ∧ LS R n w (w.heap.size + 1) w.heap.size 0 1 (.slice none 0 0) (.slice none 0 0) [] [] w2 := by
  refine ⟨_, _, make31r w n hn.2, by have := make138r (w.alloc (.cells (Array.replicate n (.slice none 0 0)) 25)) n hn.2; rwa [World.size_alloc] at this, ?_⟩
  have hb1 : Below w.heap.size w (w.alloc (.cells (Array.replicate n (.slice none 0 0)) 25)) := (Below.refl _ _).alloc (Nat.le_refl _) _
  have hb2 : Below (w.alloc (.cells (Array.replicate n (.slice none 0 0)) 25)).heap.size (w.alloc (.cells (Array.replicate n (.slice none 0 0)) 25)) ((w.alloc (.cells (Array.replicate n (.slice none 0 0)) 25)).alloc (.cells (Array.replicate n (.bool false)) 4)) := (Below.refl _ _).alloc (Nat.le_refl _) _
  have hk := heap_alloc_new (w.alloc (.cells (Array.replicate n (.slice none 0 0)) 25)) (.cells (Array.replicate n (.bool false)) 4)
  rw [World.size_alloc] at hk
  refine ⟨bl3 hb1 hb2, Nat.le_succ _, Nat.le_refl _, by rw [knB_zero]; exact hk, ⟨List.replicate n (.slice none 0 0), fun _ => False, ?_, by simp, fun j hj => ?_, fun k hk => hk.elim⟩, World.ownsRow_nil _ _ _ _, World.ownsRow_nil _ _ _ _, fun r hr => by cases hr⟩
  · rw [List.toArray_replicate]
    exact (hb2.block _ (by simp)).trans (heap_alloc_new w _)
  · obtain rfl : j = 0 := by omega
    refine ⟨.slice none 0 0, by rw [List.getElem?_replicate, if_pos (by omega)], fun w' _ => ?_⟩
    rw [hR]
    exact intsAt_nil
theorem own_cells {base : Nat} {w : World} {v : Value} {xs : List Int} (h : OwnI base w v xs) {k : Nat} (hk : k < xs.length) : ∃ g c, v = .slice (some ⟨g, 0, none⟩) xs.length c ∧ ∀ k, k < xs.length → w.cell? ⟨g, k, none⟩ = some (.int .i64 (xs.getD k 0)) := by
  obtain ⟨h0, h1⟩ := h
  rcases h1 with ⟨rfl, h2⟩ | ⟨g, cap, cur, rfl, -, hg, -, -, -, ht⟩
  · omega
  · refine ⟨g, cap, rfl, fun k hk => ?_⟩
    rw [cell_of_row _ _ _ _ _ _ hg]
    have h3 : (ints xs)[k]? = some (.int .i64 (xs.getD k 0)) := by simp [ints, List.getElem?_map, List.getD_eq_getElem?_getD, List.getElem?_eq_getElem hk]
    rw [← ht, List.getElem?_take] at h3
    split at h3
    · simpa using h3
    · cases h3
theorem fits_ok {g : Nat} (hg : g ≤ 1000) {w : W} (h : LOk g w) : Fits w := fun x hx => by
  have := h x hx
  omega
theorem frozen_row {w : World} {b : Nat} {C : Array Value} {T : TypeId} (h : w.heap[b]? = some (.cells C T (0, 0))) (k : Nat) : w.frozen? ⟨b, k, none⟩ = false := by
  simp [World.frozen?, h]
end Go.Proofs
namespace Go.Proofs.Ct
section
variable {g : Nat} {rels sub : List W} {t u : Tb}
theorem LOk.app {a b : W} (ha : LOk g a) (hb : LOk g b) : LOk g (a ++ b) := fun x hx => (List.mem_append.1 hx).elim (ha x) (hb x)
theorem Full.way_inv (h : Full g t) : ∀ {w : W} {x y : Nat}, LOk g w → x < t.length → Way t x w y → Way t y (Ct.inv w) x := by
  intro w
  induction w with
  | nil => intro x y _ _ h; exact Eq.symm h
  | cons l w ih =>
    rintro x y hw hx ⟨z, h1, h2⟩
    rw [inv_cons]
    refine way_app.2 ⟨z, ih hw.cons.2 (h.good.elt hx (col_ltL hw.cons.1) h1) h2, way_one.2 ?_⟩
    rw [col_inv hw.cons.1.2.2]
    exact h.good.eback hx (col_ltL hw.cons.1) h1
end
end Go.Proofs.Ct
namespace Go.Proofs
open Go.RowKit Go.Shelf Go.Proofs.Ct Go.Maps
theorem below_drew' (w : World) : Below w.heap.size w w.drew := (Below.refl _ _).drew
end Go.Proofs
