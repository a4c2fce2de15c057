/- slices.DeleteFunc at a list of numbers of the call's own; smith.Smith and smith.Group, by what they return; What the reference's Smith holds beside its state: the list of the diagonal as it grows; The law's helpers: Same, SameLists, row, is, lives; Diagonal forms, plainly: the chapter's examples; is and lives: examples of the chapter; Matrices that grow by rows; Pick, Take, drawn. -/
import Derived.Test.YthfachbkcmifbaaStCS7
import Derived.Lib.SliceRun
import Derived.Laws.IdiomCopy
import Derived.Lib.EndianMore
import Derived.Test.YthfachbkcmifbaaStCS6
import Derived.Test.YthfachbkcmifbaaStCS3
import Derived.Test.YthfachbkcmifbaaStCS2
namespace Go.Proofs
open Go.RowKit Go.Shelf Go.Proofs.Sm
/-- the index of the first hit, or -1 -/
def IdxAt (p : Int → Bool) (xs : List Int) (e : Ending) : Prop := (e = .returned (.int .i64 (-1)) ∧ ∀ j, j < xs.length → p (xs.getD j 0) = false) ∨ ∃ k : Nat, e = .returned (.int .i64 (k : Int)) ∧ k < xs.length ∧ p (xs.getD k 0) = true ∧ ∀ j, j < k → p (xs.getD j 0) = false
section
variable (g : Nat) (lb : Array Value) (ok : Int → Prop) (p : Int → Bool) (w : World) (eg : ∀ args w, (callFunc g args).run Try.prog w = .ok (.enter g args) w) (hp : PredW g lb ok p w) (v : Value) (xs : List Int) (h : IntsAt w v xs) (hok : ∀ x ∈ xs, ok x)
include eg hp h hok
set_option maxHeartbeats 400000 in
theorem idx60_at : Calls Try.prog 60 #[v, .func (.func g) #[] lb] w fun e w' => IdxAt p xs e ∧ ∃ q, w' = w.drewN q := by
  obtain ⟨A, c, rfl, hc1, hc2, hc⟩ := h.open_
  have HC := Lib.hid hc
  have HP := Lib.hid hp
  have HK := Lib.hid hok
  clear hc hp h hok
  go_enter Try.func60, Try.ntmps60
  go_wp2_with fail
  go_loopw [5, 8] (fun _ i wr => ∃ k : Nat, k ≤ xs.length ∧ i = .int .i64 k ∧ (∀ j, j < k → p (xs.getD j 0) = false) ∧ ∃ q, wr = w.drewN q) (fun _ i _ => xs.length - (intOf i).toNat)
  case atStart => exact ⟨0, Nat.zero_le _, rfl, fun j hj => absurd hj (by omega), 0, rfl⟩
  case round =>
    obtain ⟨k, hk, rfl, hz, q, rfl⟩ := hrel
    have HZ := Lib.hid hz
    clear hz
    by_cases hlt : k < xs.length
    · obtain ⟨b, o, rfl, hcc⟩ := HC.out (by omega)
      have hck := hcc k hlt
      have hx : ok (xs.getD k 0) := HK.out _ (by rw [List.getD_eq_getElem?_getD, List.getElem?_eq_getElem hlt]; exact List.getElem_mem hlt)
      clear hcc
      generalize hxe : xs.getD k 0 = x at *
      have HXE := Lib.hid hxe
      clear hxe
      have HX := Lib.hid hx
      clear hx
      have hcall := HP.out x q HX.out
      cases hq : p x with
      | true =>
        rw [hq] at hcall
        have HQ := Lib.hid hq
        clear hq
        have HCALL := Lib.hid hcall
        clear hcall
        go_wp2_with (go_at_fn g; (refine HCALL.out.mono ?_); rintro e w' ⟨rfl, q', rfl⟩)
        go_ret
        exact ⟨.inr ⟨k, rfl, hlt, by rw [HXE.out]; exact HQ.out, HZ.out⟩, _, rfl⟩
      | false =>
        rw [hq] at hcall
        have HQ := Lib.hid hq
        clear hq
        have HCALL := Lib.hid hcall
        clear hcall
        go_wp2_with (go_at_fn g; (refine HCALL.out.mono ?_); rintro e w' ⟨rfl, q', rfl⟩)
        go_roundw
        case rel => exact ⟨k + 1, by omega, by go_num, all_succ HZ.out (by rw [HXE.out]; exact HQ.out), _, rfl⟩
        case measure => simp [intOf]; omega
    · obtain rfl : k = xs.length := by omega
      go_wp2_with fail
      go_ret
      exact ⟨.inl ⟨rfl, HZ.out⟩, _, rfl⟩
end
theorem filter_all {p : Int → Bool} {xs : List Int} (h : ∀ j, j < xs.length → p (xs.getD j 0) = false) : (xs.filter fun x => !p x) = xs := by
  rw [List.filter_eq_self]
  intro x hx
  obtain ⟨i, hi, rfl⟩ := List.getElem_of_mem hx
  have := h i hi
  rw [List.getD_eq_getElem?_getD, List.getElem?_eq_getElem hi] at this
  simpa using this
/-- a list under way: the first i are what is left of the first j of xs -/
structure DelTo (p : Int → Bool) (xs ys : List Int) (i j : Nat) : Prop where
  len : ys.length = xs.length
  lt : i < j
  front : ys.take i = (xs.take j).filter fun x => !p x
  back : ∀ q, j ≤ q → ys.getD q 0 = xs.getD q 0
theorem DelTo.start {p : Int → Bool} {xs : List Int} {k : Nat} (hk : k < xs.length) (hp : p (xs.getD k 0) = true) (hz : ∀ j, j < k → p (xs.getD j 0) = false) : DelTo p xs xs k (k + 1) := by
  refine ⟨rfl, by omega, ?_, fun q _ => rfl⟩
  rw [List.take_succ_eq_append_getElem hk, List.filter_append]
  have h1 : ((xs.take k).filter fun x => !p x) = xs.take k := filter_all fun j hj => by
    rw [List.length_take] at hj
    have := hz j (by omega)
    rwa [show (xs.take k).getD j 0 = xs.getD j 0 by simp [List.getD_eq_getElem?_getD, show j < k by omega]]
  rw [h1]
  rw [List.getD_eq_getElem?_getD, List.getElem?_eq_getElem hk] at hp
  have hp' : p xs[k] = true := hp
  simp [hp']
theorem DelTo.keep {p : Int → Bool} {xs ys : List Int} {i j : Nat} (h : DelTo p xs ys i j) (hj : j < xs.length) (hp : p (xs.getD j 0) = false) : DelTo p xs (ys.set i (xs.getD j 0)) (i + 1) (j + 1) := by
  have hl := h.lt
  refine ⟨by simp [h.len], by omega, ?_, fun q hq => by rw [getD_set_, if_neg (by omega)]; exact h.back q (by omega)⟩
  rw [List.take_succ_eq_append_getElem hj, List.filter_append, ← h.front]
  rw [List.getD_eq_getElem?_getD, List.getElem?_eq_getElem hj] at hp ⊢
  have hp' : p xs[j] = false := hp
  rw [List.take_succ_eq_append_getElem (by rw [List.length_set, h.len]; omega)]
  have e : (ys.set i xs[j]).take i = ys.take i := by rw [List.take_set]; exact List.set_eq_of_length_le (by rw [List.length_take]; omega)
  simp [hp', e]
theorem DelTo.skip {p : Int → Bool} {xs ys : List Int} {i j : Nat} (h : DelTo p xs ys i j) (hj : j < xs.length) (hp : p (xs.getD j 0) = true) : DelTo p xs ys i (j + 1) := by
  have hl := h.lt
  refine ⟨h.len, by omega, ?_, fun q hq => h.back q (by omega)⟩
  rw [h.front, List.take_succ_eq_append_getElem hj, List.filter_append]
  rw [List.getD_eq_getElem?_getD, List.getElem?_eq_getElem hj] at hp
  have hp' : p xs[j] = true := hp
  simp [hp']
theorem zero3 (w : World) : (zeroValue 3).run Try.prog w = .ok (.int .i64 0) w := by kernel_rfl
def DelPost (xs : List Int) (base : Nat) (w : World) (e : Ending) (w' : World) : Prop := (∃ v, e = .returned v ∧ IntsAt w' v xs) ∧ Below base w w'
set_option maxRecDepth 100000 in
set_option maxHeartbeats 1000000 in
theorem delete39_any (base fn : Nat) (ok : Int → Prop) (p : Int → Bool) (w : World) (eg : ∀ args w, (callFunc fn args).run Try.prog w = .ok (.enter fn args) w) (hp : ∀ W, PredW fn #[] ok p W) (g c : Nat) (xs : List Int) (hx : XsAt w g xs) (hg : base ≤ g) (hc1 : xs.length ≤ c) (hc2 : c ≤ 9223372036854775807) (hf : Fits xs) (hok : ∀ x ∈ xs, ok x) :
    Calls Try.prog 39 #[.slice (some ⟨g, 0, none⟩) xs.length c, .func (.func fn) #[] #[]] w (DelPost (xs.filter fun x => !p x) base w) := by
  have HIDX := Lib.hid (idx60_at fn #[] ok p w eg (hp w) (.slice (some ⟨g, 0, none⟩) xs.length c) xs (hx.ints rfl hc1 hc2 hf) hok)
  have HX := Lib.hid hx
  have HP := Lib.hid hp
  have HF := Lib.hid hf
  have HOK : Hid (∀ j, j < xs.length → ok (xs.getD j 0)) := Lib.hid fun j hj => hok _ (by rw [List.getD_eq_getElem?_getD, List.getElem?_eq_getElem hj]; exact List.getElem_mem hj)
  have HEG := Lib.hid eg
  clear hx hp hf hok
  have hx0 : (0 : Int) ≤ (xs.length : Int) := Int.natCast_nonneg _
  go_enter Try.func39, Try.ntmps39
  go_wp2_with fail
  refine HIDX.out.mono ?_
  rintro e w1 ⟨hidx, q, rfl⟩
  rcases hidx with ⟨rfl, hall⟩ | ⟨k, rfl, hk, hhit, hbef⟩
  · have HALL := Lib.hid (filter_all hall)
    clear hall
    go_wp2_with fail
    go_ret
    exact ⟨⟨_, rfl, by rw [HALL.out]; exact (HX.out.ints rfl hc1 hc2 HF.out).drewN _⟩, below_drewN (Below.refl _ _) _⟩
  · have HD := Lib.hid (DelTo.start hk hhit hbef)
    have hd1 : ((k : Int) == -1) = false := beq_eq_false_iff_ne.2 (by omega)
    have hkb : (k : Int) < (xs.length : Int) := by omega
    have hk0 : (0 : Int) ≤ (k : Int) := Int.natCast_nonneg _
    have hk1 : k + 1 ≤ xs.length := hk
    clear hhit hbef hk
    go_wp2_with fail
    go_loopw [5, 6, 7] (fun zi zj _ wr => ∃ (i j : Nat) (ys : List Int), zi = .int .i64 i ∧ zj = .int .i64 j ∧ j ≤ xs.length ∧ Hid (DelTo p xs ys i j ∧ XsAt wr g ys ∧ Below base w wr)) (fun _ zj _ _ => xs.length - (intOf zj).toNat)
    case atStart => exact ⟨k, k + 1, xs, rfl, by go_num, hk1, Lib.hid ⟨HD.out, HX.out.keep rfl, below_drewN (Below.refl _ _) _⟩⟩
    case round =>
      obtain ⟨i, j, ys, rfl, rfl, hj, HI⟩ := hrel
      have hi0 : (0 : Int) ≤ (i : Int) := Int.natCast_nonneg _
      have hj0 : (0 : Int) ≤ (j : Int) := Int.natCast_nonneg _
      have hij := HI.out.1.lt
      by_cases hlt : j < xs.length
      · have hlt' : (j : Int) < (xs.length : Int) := by omega
        have hilt : (i : Int) < (xs.length : Int) := by omega
        have hcj := HI.out.2.1.cell (k := j) (by rw [HI.out.1.len]; exact hlt)
        rw [HI.out.1.back j (Nat.le_refl _)] at hcj
        have hci := HI.out.2.1.cell (k := i) (by rw [HI.out.1.len]; omega)
        have hfi := HI.out.2.1.frozen i
        have hcall := HP.out wr (xs.getD j 0) 0 (HOK.out j hlt)
        have HKEEP := Lib.hid (fun h => HI.out.1.keep hlt h)
        have HSKIP := Lib.hid (fun h => HI.out.1.skip hlt h)
        have HSET := Lib.hid (fun z => HI.out.2.1.set (k := i) (by rw [HI.out.1.len]; omega) z)
        generalize xs.getD j 0 = z at *
        generalize ys.getD i 0 = y at *
        cases hq : p z with
        | true =>
          rw [hq] at hcall
          have HC := Lib.hid hcall
          have HN := Lib.hid (HSKIP.out hq)
          clear hcall hq
          go_wp2_with (go_at_fn fn; (refine HC.out.mono ?_); rintro e w' ⟨rfl, q', rfl⟩)
          go_roundw
          case rel => exact ⟨i, j + 1, ys, rfl, by go_num, by omega, Lib.hid ⟨HN.out, HI.out.2.1.keep rfl, below_drewN HI.out.2.2 _⟩⟩
          case measure => simp [intOf]; omega
        | false =>
          rw [hq] at hcall
          have HC := Lib.hid hcall
          have HN := Lib.hid (HKEEP.out hq)
          clear hcall hq
          go_wp2_with (go_at_fn fn; (refine HC.out.mono ?_); rintro e w' ⟨rfl, q', rfl⟩)
          go_roundw
          case rel => exact ⟨i + 1, j + 1, ys.set i z, by go_num, by go_num, by omega, Lib.hid ⟨HN.out, by first | exact (HSET.out z).keep rfl | exact HSET.out z, by first | exact below_drewN (HI.out.2.2.setCell (p := ⟨g, i, none⟩) hg _) _ | exact HI.out.2.2.setCell (p := ⟨g, i, none⟩) hg _⟩⟩
          case measure => simp [intOf]; omega
      · obtain rfl : j = xs.length := by omega
        have hylen := HI.out.1.len
        have hfr := HI.out.1.front
        rw [List.take_length] at hfr
        have HFR := Lib.hid hfr
        have hcl : ∀ ty, (Builtin.clear_ #[25] ty #[.slice (some ⟨g, i, none⟩) (xs.length - i) (c - i)]).run Try.prog wr = .ok (.tuple #[]) (wr.setCells g i (List.replicate (xs.length - i) (.int .i64 0))) := fun ty =>
          Lib.run_clear_slice wr _ _ ty _ Try.underlying25 zero3 rfl rfl g i _ _ (by omega) (fun t ht => by rw [HI.out.2.1.cell (k := i + t) (by rw [hylen]; omega)]; rfl) (fun t ht => HI.out.2.1.frozen _)
        have HRES : Hid (IntsAt (wr.setCells g i (List.replicate (xs.length - i) (.int .i64 0))) (.slice (some ⟨g, 0, none⟩) i c) (ys.take i)) := Lib.hid (by
          have hti : (ys.take i).length = i := by rw [List.length_take, hylen]; omega
          refine ⟨⟨_, i, c, rfl, by rw [length_ints, hti], by omega, by unfold maxLen; omega, fun _ => ⟨g, 0, rfl, fun m v hv => ?_⟩⟩, fun z hz => ?_⟩
          · have hm : m < i := by
              have := (List.getElem?_eq_some_iff.1 hv).1
              rw [length_ints, hti] at this
              exact this
            rw [World.cell?_setCells_out g _ i wr ⟨g, 0 + m, none⟩ (fun _ _ => .inl (by show 0 + m < i; omega)), Nat.zero_add, HI.out.2.1.cell (k := m) (by rw [hylen]; omega), ← hv]
            have hmy : m < ys.length := by omega
            simp [ints, hm, hmy, List.getD_eq_getElem?_getD]
          · rw [HFR.out] at hz
            exact HF.out z (List.mem_filter.1 hz).1)
        have HB : Hid (Below base w (wr.setCells g i (List.replicate (xs.length - i) (.int .i64 0)))) := Lib.hid (HI.out.2.2.trans (Lib.below_setCells_w hg _ _ _))
        clear hylen hfr
        have hilt : (i : Int) < (xs.length : Int) := by omega
        have hic : (i : Int) ≤ (c : Int) := by omega
        have hcap : ¬ c = i := by omega
        go_wp2_with fail
        go_ret
        exact ⟨⟨_, rfl, by rw [← HFR.out]; exact HRES.out⟩, HB.out⟩
end Go.Proofs
namespace Go.Proofs
open Go.RowKit Go.Shelf Go.Proofs.Sm
theorem smith11_own (w : World) (n : Int) (v : Value) (l : List (List Int)) (h : Tab w v l) {d : List Int} {u vv : Mat} {er : Int} (hE : SmE n l d u vv er) : Calls Try.prog 11 #[.int .i64 n, v] w (SmithPostD d u vv er w) := by
  rcases hE with ⟨h1, rfl, rfl, rfl, rfl⟩ | ⟨h1, h2⟩
  · exact smith_no w n v l h h1
  · obtain ⟨hn1, -, -, -⟩ := valid_of_check h1
    obtain ⟨k, rfl⟩ : ∃ k : Nat, n = (k : Int) := ⟨n.toNat, by omega⟩
    rw [Int.toNat_natCast] at h2
    rcases h2 with ⟨ho, rfl, rfl, rfl, rfl⟩ | ⟨s, ho, rfl, rfl, rfl, rfl⟩
    · exact smith_over w k v l h h1 none ho
    · exact smith_over w k v l h h1 (some s) ho
theorem smith11_any (w : World) (n : Int) (v : Value) (l : List (List Int)) (h : Tab w v l) {d : List Int} {u vv : Mat} {er : Int} (hE : SmE n l d u vv er) : Calls Try.prog 11 #[.int .i64 n, v] w (SmithPost d u vv er w) :=
  (smith11_own w n v l h hE).mono fun _ _ ⟨⟨vd, vu, vv, h1, h2, h3, h4, _⟩, hb⟩ => ⟨⟨vd, vu, vv, h1, h2, h3, h4⟩, hb⟩
theorem eg40 : ∀ args w, (callFunc 40 args).run Try.prog w = .ok (.enter 40 args) w := enters_of Try.func40 (by kernel_rfl) rfl
theorem pred40 (W : World) : PredW 40 #[] (fun _ => True) (fun x => x == 1) W := fun x q _ => by
  show Calls Try.prog 40 #[.int .i64 x] (W.drewN q) _
  go_enter Try.func40, Try.ntmps40
  go_wp2_with fail
  go_ret
  exact ⟨rfl, q, rfl⟩
theorem delete39_own (base : Nat) (w : World) (v : Value) (xs : List Int) (h : OwnI base w v xs) (_hbw : base ≤ w.heap.size) (hf : Fits xs) :
    Calls Try.prog 39 #[v, .func (.func 40) #[] #[]] w (DelPost (xs.filter fun x => !(x == 1)) base w) := by
  obtain ⟨A, c, rfl⟩ := owns_form h
  rcases Nat.eq_zero_or_pos xs.length with h0 | h0
  · obtain rfl : xs = [] := List.length_eq_zero_iff.1 h0
    have hI : IntsAt w (.slice A 0 c) [] := OwnI.ints h hf
    have HIDX := Lib.hid (idx60_at 40 #[] (fun _ => True) (fun x => x == 1) w eg40 (pred40 w) (.slice A 0 c) [] hI (fun _ _ => trivial))
    have HI := Lib.hid hI
    clear h hI h0
    show Calls Try.prog 39 #[.slice A 0 c, .func (.func 40) #[] #[]] w _
    go_enter Try.func39, Try.ntmps39
    go_wp2_with fail
    refine HIDX.out.mono ?_
    rintro e w1 ⟨hidx, q, rfl⟩
    rcases hidx with ⟨rfl, -⟩ | ⟨k, -, hk, -⟩
    · go_wp2_with fail
      go_ret
      exact ⟨⟨_, rfl, HI.out.drewN _⟩, below_drewN (Below.refl _ _) _⟩
    · exact absurd hk (Nat.not_lt_zero _)
  · obtain ⟨g, rfl, hx, hg, hc1, hc2⟩ := owns_xs h h0
    exact delete39_any base 40 (fun _ => True) (fun x => x == 1) w eg40 pred40 g c xs hx hg hc1 hc2 hf (fun _ _ => trivial)
/-- what Group returns -/
def GrE (n : Int) (l : Mat) (t : List Int) (free er : Int) : Prop := ∃ d u v e, SmE n l d u v e ∧ ((e ≠ 0 ∧ t = [] ∧ free = 0 ∧ er = e) ∨ (e = 0 ∧ t = (d.filter fun x => !(x == 1)) ∧ free = n - d.length ∧ er = 0))
theorem grE_ex (n : Int) (l : Mat) : ∃ t f e, GrE n l t f e := by
  obtain ⟨d, u, v, e, h⟩ := smE_ex n l
  by_cases h0 : e = 0
  · exact ⟨_, _, _, d, u, v, e, h, .inr ⟨h0, rfl, rfl, rfl⟩⟩
  · exact ⟨_, _, _, d, u, v, e, h, .inl ⟨h0, rfl, rfl, rfl⟩⟩
theorem smE_bd {n : Int} {l : Mat} {d : List Int} {u v : Mat} (h : SmE n l d u v 0) : 1 ≤ n ∧ n ≤ 16 ∧ d.length ≤ 16 := by
  rcases h with ⟨h1, -, -, -, h2⟩ | ⟨h1, h2⟩
  · exact absurd h2.symm h1
  · obtain ⟨a, b, c, hv⟩ := valid_of_check h1
    rcases h2 with ⟨-, -, -, -, h3⟩ | ⟨s, ho, rfl, -, -, -⟩
    · omega
    · have := (out_end hv ho).tn
      rw [length_diagOf]
      exact ⟨a, b, by omega⟩
def GroupPost (t : List Int) (free er : Int) (w : World) (e : Ending) (w' : World) : Prop := (∃ v, e = .returned (.tuple #[v, .int .i64 free, .int .i64 er]) ∧ IntsAt w' v t) ∧ Below w.heap.size w w'
set_option maxRecDepth 100000 in
set_option maxHeartbeats 1000000 in
theorem group13_any (w : World) (n : Int) (v : Value) (l : List (List Int)) (h : Tab w v l) {t : List Int} {free er : Int} (hE : GrE n l t free er) : Calls Try.prog 13 #[.int .i64 n, v] w (GroupPost t free er w) := by
  obtain ⟨d, u, vv, e, hS, hcase⟩ := hE
  have HS := Lib.hid (smith11_any w n v l h hS)
  obtain ⟨A0, c0, rfl, -, -, -⟩ := h.open_
  clear h
  rcases hcase with ⟨h0, rfl, rfl, rfl⟩ | ⟨rfl, rfl, rfl, rfl⟩
  · have hd : (er != 0) = true := by simpa using h0
    clear hS h0
    go_enter Try.func13, Try.ntmps13
    go_wp2_with (go_at_call 11; (refine HS.out.mono ?_); rintro e w1 ⟨⟨vd, vu, vv, rfl, hd, hu, hv⟩, hb⟩; obtain ⟨Ad, cd, rfl, -, -, -⟩ := hd.open_; obtain ⟨Au, cu, rfl, -, -, -⟩ := LAt.open_ hu; obtain ⟨Av, cv, rfl, -, -, -⟩ := LAt.open_ hv; have HB := Lib.hid hb; clear hd hu hv hb)
    go_ret3
    exact ⟨⟨_, rfl, intsAt_nil⟩, HB.out⟩
  · obtain ⟨b1, b2, b3⟩ := smE_bd hS
    clear hS
    have hdl : (d.length : Int) ≤ 16 := by omega
    go_enter Try.func13, Try.ntmps13
    go_wp2_with fail
    refine HS.out.mono ?_
    rintro e w1 ⟨⟨vd, vu, vv', rfl, hd, hu, hv⟩, hb⟩
    obtain ⟨Ad, cd, rfl, -, -, -⟩ := id hd.open_
    obtain ⟨Au, cu, rfl, -, -, -⟩ := LAt.open_ hu
    obtain ⟨Av, cv, rfl, -, -, -⟩ := LAt.open_ hv
    have HCL := Lib.hid (clone34_any w1 (.slice Ad d.length cd) d hd (by omega))
    have HDF := Lib.hid hd.2
    have HB := Lib.hid hb
    clear hd hu hv hb
    go_wp2_with (first
      | (go_at_call 34; (refine HCL.out.mono ?_); rintro e w2 ⟨A2, c2, rfl, ho2, hb2⟩; have HDEL := Lib.hid (delete39_own w1.heap.size w2 _ d ho2 hb2.size HDF.out); have HB2 := Lib.hid (HB.out.trans (hb2.mono HB.out.size)); clear ho2 hb2)
      | (go_at_call 39; (refine HDEL.out.mono ?_); rintro e w3 ⟨⟨vt, rfl, ht⟩, hb3⟩; obtain ⟨At, ct, rfl, -, -, -⟩ := id ht.open_; have HT := Lib.hid ht; have HB3 := Lib.hid (HB2.out.trans (hb3.mono HB.out.size)); clear ht hb3))
    go_ret3
    exact ⟨⟨_, rfl, HT.out⟩, HB3.out⟩
end Go.Proofs
namespace Go.Proofs
open Go.RowKit Go.Shelf Go.Proofs.Sm
/-- the state at the start: no rows yet -/
theorem WkM.start70 {base : Nat} {w : World} {r n : Nat} {vu vv : Value} {blu csu blv csv : Nat → Nat} (hbw : base ≤ w.heap.size) (hu : MatM base w vu blu csu (idM r)) {base2 : Nat} (hb2 : base ≤ base2) (hult : (∀ i, i < r → blu i < base2) ∧ ∀ g, vu.ownBlock = some g → g < base2) (hv : MatM base2 w vv blv csv (idM n)) :
    Wk 70 w.heap.size base (w.alloc (.cells #[.slice none 0 0, vu, vv, .bool false] 70)) ⟨[], idM r, idM n, 0⟩ (.bool false) := by
  have hal : Below w.heap.size w (w.alloc (.cells #[.slice none 0 0, vu, vv, .bool false] 70)) := (Below.refl _ _).alloc (Nat.le_refl _) _
  have hu2 := hu.keep hal
  have hv2 := hv.keep hal
  refine ⟨fun k => if k = 0 then .slice none 0 0 else if k = 1 then vu else vv, fun k i => if k = 1 then blu i else blv i, fun k i => if k = 1 then csu i else csv i, ⟨by decide, by decide⟩, hbw, heap_alloc_new w _, fun k hk => ?_, fun k i hk hi => ?_, fun k i k' i' h1 h2 h3 h4 e => ?_, fun k k' h1 h2 h3 q hq hq' => ?_⟩
  · obtain rfl | rfl | rfl : k = 0 ∨ k = 1 ∨ k = 2 := by omega
    · exact World.ownsRow_nil _ _ _ _
    · exact hu2.out
    · exact owns_base hv2.out hb2
  · obtain rfl | rfl | rfl : k = 0 ∨ k = 1 ∨ k = 2 := by omega
    · exact absurd hi (Nat.not_lt_zero _)
    · exact hu2.row i hi
    · obtain ⟨a1, a2, a3⟩ := hv2.row i hi
      exact ⟨Nat.le_trans hb2 a1, a2, a3⟩
  · obtain rfl | rfl | rfl : k = 0 ∨ k = 1 ∨ k = 2 := by omega
    · exact absurd h3 (Nat.not_lt_zero _)
    · obtain rfl | rfl | rfl : k' = 0 ∨ k' = 1 ∨ k' = 2 := by omega
      · exact absurd h4 (Nat.not_lt_zero _)
      · exact ⟨rfl, hu2.inj i i' h3 h4 e⟩
      · have e2 : blu i = blv i' := e
        have h5 := hult.1 i (by rw [← idM_length r]; exact h3)
        have h6 := (hv2.row i' h4).1
        omega
    · obtain rfl | rfl | rfl : k' = 0 ∨ k' = 1 ∨ k' = 2 := by omega
      · exact absurd h4 (Nat.not_lt_zero _)
      · have e2 : blv i = blu i' := e
        have h5 := hult.1 i' (by rw [← idM_length r]; exact h4)
        have h6 := (hv2.row i h3).1
        omega
      · exact ⟨rfl, hv2.inj i i' h3 h4 e⟩
  · obtain rfl | rfl | rfl : k = 0 ∨ k = 1 ∨ k = 2 := by omega
    · cases hq
    · obtain rfl | rfl | rfl : k' = 0 ∨ k' = 1 ∨ k' = 2 := by omega
      · cases hq'
      · exact h3 rfl
      · have h5 := hult.2 q hq
        have h6 := (owns_block hv2.out q hq').1
        omega
    · obtain rfl | rfl | rfl : k' = 0 ∨ k' = 1 ∨ k' = 2 := by omega
      · cases hq'
      · have h5 := hult.2 q hq'
        have h6 := (owns_block hv2.out q hq).1
        omega
      · exact h3 rfl
section
variable {T b base : Nat} {w w' : World} {s : S} {x : Value} {vs : Nat → Value} {bl cs : Nat → Nat → Nat}
/-- a block of numbers that the state does not name is turned -/
theorem WkM.apart (h : WkM T b base w s x vs bl cs) {q : Option Nat} (hq : ∀ g, q = some g → ¬ Named b w g ∧ ∃ C, w.heap[g]? = some (.cells C 3 (0, 0))) (hk : ∀ p, p < w.heap.size → q ≠ some p → w'.heap[p]? = w.heap[p]?) : WkM T b base w' s x vs bl cs := by
  have hno : ∀ (p : Nat) (C : Array Value) (e : TypeId), w.heap[p]? = some (.cells C e (0, 0)) → e ≠ 3 → w'.heap[p]? = w.heap[p]? := fun p C e hp he => hk p (Array.getElem?_eq_some_iff.1 hp).1 fun e2 => by
    obtain ⟨-, D, hD⟩ := hq p e2
    rw [hp] at hD
    injection hD with h5
    injection h5 with _ h6 _
    exact he h6
  refine ⟨h.ty, h.bb, (hno b _ _ h.box h.ty.1).trans h.box, fun k hk3 => owns_keep (h.out k hk3) fun r hr => ?_, fun k i hk3 hi => ?_, h.inj, h.sep⟩
  · obtain ⟨-, C, hC⟩ := owns_block (h.out k hk3) r hr
    exact hno r C _ hC (by decide)
  · obtain ⟨a1, a2, a3⟩ := h.row k i hk3 hi
    exact ⟨a1, a2.keep (hk _ a2.lt fun e => (hq _ e).1 (h.named.2 ⟨k, i, hk3, hi, rfl⟩)), a3⟩
end
/-- the list of the diagonal: no block of the state -/
def DvAt (b base : Nat) (w : World) (A : Option Addr) (t c : Nat) (xs : List Int) : Prop := OwnI base w (.slice A t c) xs ∧ xs.length = t ∧ ∀ g, (Value.slice A t c).ownBlock = some g → ¬ Named b w g
section
variable {b base : Nat} {w w' : World} {s : S} {x : Value} {A : Option Addr} {t c : Nat} {xs : List Int}
theorem DvAt.chb (h : DvAt b base w A t c xs) (hc : Chb b base w w') : DvAt b base w' A t c xs :=
  ⟨owns_keep h.1 fun r hr => (let ⟨_, C, hC⟩ := owns_block h.1 r hr; (hc.rows r C hC (h.2.2 r hr)).1), h.2.1, fun g hg => let ⟨_, C, hC⟩ := owns_block h.1 g hg; (hc.rows g C hC (h.2.2 g hg)).2⟩
theorem DvAt.nil (b base : Nat) (w : World) : DvAt b base w none 0 0 [] := ⟨World.ownsRow_nil _ _ _ _, rfl, fun g hg => by cases hg⟩
theorem DvAt.push (h : DvAt b base w A t c xs) (hW : Wk 70 b base w s x) (hbw : base ≤ w.heap.size) (ht : t ≤ 1000000) (z : Int) :
    ∃ A' c' w', (Builtin.append_ #[25, 25] 25 #[.slice A t c, .slice (some ⟨w.heap.size, 0, none⟩) 1 1]).run Try.prog (w.alloc (.cells #[.int .i64 z] 3)) = .ok (.slice A' (t + 1) c') w' ∧ Wk 70 b base w' s x ∧ DvAt b base w' A' (t + 1) c' (xs ++ [z]) ∧ Below base w w' := by
  obtain ⟨hO, hl, hN⟩ := h
  obtain ⟨A', c', w', hr, ho, hg, hn⟩ := push_int 25 25 Try.underlying25 w base (.slice A t c) xs hO z (by omega) hbw
  rw [hl] at hr ho hn
  obtain ⟨vs, bl, cs, hM⟩ := hW
  have hq : ∀ g, (Value.slice A t c).ownBlock = some g → ¬ Named b w g ∧ ∃ C, w.heap[g]? = some (.cells C 3 (0, 0)) := fun g hg => ⟨hN g hg, (owns_block hO g hg).2⟩
  have hk : ∀ p, p < w.heap.size → (Value.slice A t c).ownBlock ≠ some p → w'.heap[p]? = w.heap[p]? := fun p hp hne => hg.block p hp (Ne.symm hne)
  have hM' := hM.apart (w' := w') hq hk
  refine ⟨A', c', w', hr, ⟨vs, bl, cs, hM'⟩, ⟨ho, by simp [hl], fun g hg' hnm => ?_⟩, (Below.refl base w).grown hg hbw fun r hr => (owns_block hO r hr).1⟩
  obtain ⟨k, i, hk3, hi, e⟩ := hM'.named.1 hnm
  rcases hn with hn | ⟨r, hr2, hge⟩
  · exact hN g (by rw [← hn]; exact hg') (hM.named.2 ⟨k, i, hk3, hi, e⟩)
  · rw [hr2] at hg'
    cases hg'
    have := (hM.row k i hk3 hi).2.1.lt
    omega
end
/-- the head of the reference's loop over the diagonal -/
def HeadS (b base r n : Nat) (o : Option S) (t : Nat) (w : World) : Prop :=
  (∃ σ m, σ.t = t ∧ Base r n σ ∧ run r n m .choose σ = some o ∧ Wk 70 b base w σ (.bool false)) ∨ (o = none ∧ ∃ σ, Wk 70 b base w σ (.bool true))
theorem stepR_cases {b base r n t : Nat} {w w' : World} {o : Option S} {e : Ending} {xs : List Int} (hx : ∀ τ, o = some τ → xs = (diagOf τ).take t) (h : StepR b base r n t w o e w') :
    (∃ σ, e = .returned (.bool false) ∧ o = some σ ∧ σ.t = t ∧ Wk 70 b base w' σ (.bool false) ∧ Chb b base w w') ∨
    (∃ σ ov, e = .returned (.bool true) ∧ Shape r n σ ∧ Wk 70 b base w' σ (.bool ov) ∧ Chb b base w w' ∧ (∀ W, Wk 70 b base W σ (.bool ov) → HeadS b base r n o (t + 1) W) ∧ ∀ τ, o = some τ → xs ++ [ent σ.a t t] = (diagOf τ).take (t + 1)) := by
  rcases h with h | ⟨σ, h1, ⟨h2, h3⟩, h4, h5⟩ | ⟨σ, m, h1, h2, h3, h4, h5, h6⟩
  · exact .inl h
  · exact .inr ⟨σ, true, h1, h3, h4, h5, fun W hW => .inr ⟨h2, σ, hW⟩, fun τ hτ => by rw [h2] at hτ; cases hτ⟩
  · refine .inr ⟨σ, false, h1, h3.sh, h5, h6, fun W hW => .inl ⟨σ, m, h2, h3, h4, hW⟩, fun τ hτ => ?_⟩
    subst hτ
    exact diag_step h3 h4 h2 (hx τ rfl)
theorem wk_tail {T b base r n : Nat} {w : World} {σ : S} {x : Value} (hW : Wk T b base w σ x) (hb : Base r n σ) : ∃ Au lu cu Av lv cv, w.cell? ⟨b, 1, none⟩ = some (.slice Au lu cu) ∧ w.cell? ⟨b, 2, none⟩ = some (.slice Av lv cv) ∧ Hid (Tab w (.slice Au lu cu) σ.u ∧ Tab w (.slice Av lv cv) σ.v) := by
  obtain ⟨vs, bl, cs, hM⟩ := hW
  obtain ⟨Au, cu, hvu, -, -⟩ := hM.form (k := 1) (by omega)
  obtain ⟨Av, cv, hvv, -, -⟩ := hM.form (k := 2) (by omega)
  have htu : Tab w (vs 1) σ.u := hM.tab (k := 1) (by omega) (fits_mat hb.bdu)
  have htv : Tab w (vs 2) σ.v := hM.tab (k := 2) (by omega) (fits_mat hb.bdv)
  have d1 := hM.cellk (k := 1) (by omega)
  have d2 := hM.cellk (k := 2) (by omega)
  rw [hvu] at d1 htu
  rw [hvv] at d2 htv
  exact ⟨_, _, _, _, _, _, d1, d2, Lib.hid ⟨htu, htv⟩⟩
def SmithPostP (o : Option S) (w : World) (e : Ending) (w' : World) : Prop := match o with
  | none => SmithPost [] [] [] 5 w e w'
  | some s => SmithPost (diagOf s) s.u s.v 0 w e w'
theorem fits_diag {r n : Nat} {σ : S} (hb : Base r n σ) : Fits (diagOf σ) := fun z hz => by
  simp only [diagOf, List.mem_map] at hz
  obtain ⟨j, -, rfl⟩ := hz
  have := hb.bda j j
  omega
end Go.Proofs
namespace Go.Proofs
open Go.RowKit Go.Shelf Go.Proofs.Sm
set_option maxRecDepth 100000 in
set_option maxHeartbeats 400000 in
theorem same17_any (w : World) (va vb : Value) (x y : List Int) (ha : IntsAt w va x) (hb : IntsAt w vb y) :
    Calls Try.prog 17 #[va, vb] w fun e w' => e = .returned (.bool (decide (x = y))) ∧ ∃ q, w' = w.drewN q := by
  obtain ⟨A3, c3, rfl, hd1, hd2, hd⟩ := ha.open_
  obtain ⟨A4, c4, rfl, he1, he2, he⟩ := hb.open_
  have HD := Lib.hid hd
  have HE := Lib.hid he
  clear ha hb hd he
  have HN := Lib.hid (fun (h : x.length ≠ y.length) (e : x = y) => h (by rw [e]))
  by_cases hxy : x.length = y.length
  · have d3 : ((x.length : Int) != (y.length : Int)) = false := by simp; omega
    have d4 : (x.length != y.length) = false := by simp; omega
    have HX := Lib.hid hxy
    clear hxy
    go_enter Try.func17, Try.ntmps17
    go_wp2_with fail
    go_loopw [5] (fun i wr => ∃ j : Nat, j ≤ x.length ∧ i = .int .i64 j ∧ (∀ t, t < j → x.getD t 0 = y.getD t 0) ∧ ∃ q, wr = w.drewN q) (fun i _ => x.length - (intOf i).toNat)
    case atStart => exact ⟨0, Nat.zero_le _, rfl, fun j hj => absurd hj (by omega), 0, rfl⟩
    case round =>
      obtain ⟨j, hj, rfl, hzj, qj, rfl⟩ := hrel
      have HZJ := Lib.hid hzj
      clear hzj
      by_cases hjl : j < x.length
      · obtain ⟨b3, o3, rfl, hx⟩ := HD.out (by omega)
        obtain ⟨b4, o4, rfl, hy⟩ := HE.out (by rw [← HX.out]; omega)
        have hx1 := hx j hjl
        have hy1 := hy j (by rw [← HX.out]; omega)
        have hj0 : (0 : Int) ≤ (j : Int) := Int.natCast_nonneg _
        have hjb : (j : Int) < (y.length : Int) := by rw [← HX.out]; omega
        have hja : (j : Int) < (x.length : Int) := by omega
        have HM := Lib.hid (fun h => getD_ne (A := x) (B := y) (d := 0) (k := j) h)
        clear hx hy
        generalize hse : x.getD j 0 = s at *
        generalize hte : y.getD j 0 = t at *
        have HSE := Lib.hid hse
        have HTE := Lib.hid hte
        clear hse hte
        by_cases hst : s = t
        · have d5 : (s != t) = false := by simpa using hst
          have HS := Lib.hid hst
          clear hst
          go_wp2_with fail
          go_quiet (fail)
          go_wp2_with fail
          go_roundw
          case rel => exact ⟨j + 1, by omega, by go_num, all_succ HZJ.out (by rw [HSE.out, HTE.out]; exact HS.out), (by first | exact ⟨_, rfl⟩ | exact ex_drewN)⟩
          case measure => simp [intOf]; omega
        · have d5 : (s != t) = true := by simpa using hst
          have HS := Lib.hid hst
          clear hst
          go_wp2_with fail
          go_quiet (fail)
          go_wp2_with fail
          go_ret
          exact ⟨ret_bool (by simpa using HM.out HS.out), (by first | exact ⟨_, rfl⟩ | exact ex_drewN)⟩
      · obtain rfl : j = x.length := by omega
        go_wp2_with fail
        go_ret
        exact ⟨ret_bool (by simpa using getD_ext HX.out HZJ.out), (by first | exact ⟨_, rfl⟩ | exact ex_drewN)⟩
  · have d3 : ((x.length : Int) != (y.length : Int)) = true := by simp; omega
    have d4 : (x.length != y.length) = true := by simp; omega
    have HX := Lib.hid hxy
    clear hxy
    go_enter Try.func17, Try.ntmps17
    go_wp2_with fail
    go_ret
    exact ⟨ret_bool (by simpa using HN.out HX.out), 0, rfl⟩
theorem quiet_more {P : Program} {f : FuncId} {args : Array Value} {w : World} {a n : Nat} {v : Value}
    (h : Calls P f args (w.drewN (a + n)) fun e w' => e = .returned v ∧ ∃ q, w' = (w.drewN (a + n)).drewN q) :
    Calls P f args (w.drewN (a + n)) fun e w'' => e = .returned v ∧ ∃ m, w'' = w.drewN (a + m) :=
  h.mono fun _ _ ⟨he, q, hq⟩ => ⟨he, n + q, by rw [hq, World.drewN_drewN, Nat.add_assoc]⟩
theorem quiet_more0 {P : Program} {f : FuncId} {args : Array Value} {w : World} {n : Nat} {v : Value}
    (h : Calls P f args (w.drewN n) fun e w' => e = .returned v ∧ ∃ q, w' = (w.drewN n).drewN q) :
    Calls P f args (w.drewN n) fun e w'' => e = .returned v ∧ ∃ m, w'' = w.drewN m :=
  h.mono fun _ _ ⟨he, q, hq⟩ => ⟨he, n + q, by rw [hq, World.drewN_drewN]⟩
set_option maxRecDepth 100000 in
set_option maxHeartbeats 400000 in
theorem sameLists18_any (w : World) (va vb : Value) (A B : List (List Int)) (ha : Tab w va A) (hb : Tab w vb B) :
    Calls Try.prog 18 #[va, vb] w fun e w' => e = .returned (.bool (decide (A = B))) ∧ ∃ q, w' = w.drewN q := by
  obtain ⟨A0, ca, rfl, ha1, ha2, ha3⟩ := ha.open_
  obtain ⟨B0, cb, rfl, hb1, hb2, hb3⟩ := hb.open_
  have HA := Lib.hid ha3
  have HB := Lib.hid hb3
  clear ha hb ha3 hb3
  by_cases hl : A.length = B.length
  · have d1 : ((A.length : Int) != (B.length : Int)) = false := by simp; omega
    have d2 : (A.length != B.length) = false := by simp; omega
    have HL := Lib.hid hl
    clear hl
    go_enter Try.func18, Try.ntmps18
    go_wp2_with fail
    go_loopw [5] (fun i wr => ∃ k : Nat, k ≤ A.length ∧ i = .int .i64 k ∧ (∀ j, j < k → A.getD j [] = B.getD j []) ∧ ∃ q, wr = w.drewN q) (fun i _ => A.length - (intOf i).toNat)
    case atStart => exact ⟨0, Nat.zero_le _, rfl, fun j hj => absurd hj (by omega), 0, rfl⟩
    case round =>
      obtain ⟨k, hk, rfl, hz, q, rfl⟩ := hrel
      have HZ := Lib.hid hz
      clear hz
      by_cases hlt : k < A.length
      · obtain ⟨b1, o1, rfl, hc1⟩ := HA.out (by omega)
        obtain ⟨b2, o2, rfl, hc2⟩ := HB.out (by rw [← HL.out]; omega)
        obtain ⟨u1, hu1, hr1⟩ := hc1 k hlt
        obtain ⟨u2, hu2, hr2⟩ := hc2 k (by rw [← HL.out]; omega)
        obtain ⟨A3, c3, rfl, -, -, -⟩ := id hr1.open_
        obtain ⟨A4, c4, rfl, -, -, -⟩ := id hr2.open_
        have hk0 : (0 : Int) ≤ (k : Int) := Int.natCast_nonneg _
        have hkb : (k : Int) < (B.length : Int) := by rw [← HL.out]; omega
        have hka : (k : Int) < (A.length : Int) := by omega
        have HN := Lib.hid (fun h => getD_ne (A := A) (B := B) (d := []) (k := k) h)
        have HSM : Hid (∀ q, Calls Try.prog 17 #[.slice A3 (A.getD k []).length c3, .slice A4 (B.getD k []).length c4] (w.drewN q) fun e w' => e = .returned (.bool (decide (A.getD k [] = B.getD k []))) ∧ ∃ q', w' = (w.drewN q).drewN q') := Lib.hid fun q => same17_any (w.drewN q) _ _ _ _ (hr1.drewN q) (hr2.drewN q)
        generalize hxe : A.getD k [] = x at *
        generalize hye : B.getD k [] = y at *
        have HXE := Lib.hid hxe
        have HYE := Lib.hid hye
        clear hxe hye hc1 hc2 hr1 hr2
        by_cases hxy : x = y
        · have hd : decide (x = y) = true := decide_eq_true hxy
          rw [hd] at HSM
          have HXY := Lib.hid hxy
          clear hxy hd
          generalize x.length = lx at *
          generalize y.length = ly at *
          go_wp2_with fail
          go_quiet ((go_at_call 17; first | exact quiet_more (HSM.out _) | exact quiet_more0 (HSM.out _)))
          go_wp2_with fail
          go_roundw
          case rel => exact ⟨k + 1, by omega, by go_num, all_succ HZ.out (by rw [HXE.out, HYE.out]; exact HXY.out), (by first | exact ⟨_, rfl⟩ | exact ex_drewN)⟩
          case measure => simp [intOf]; omega
        · have hd : decide (x = y) = false := decide_eq_false hxy
          rw [hd] at HSM
          have HXY := Lib.hid hxy
          clear hxy hd
          generalize x.length = lx at *
          generalize y.length = ly at *
          go_wp2_with fail
          go_quiet ((go_at_call 17; first | exact quiet_more (HSM.out _) | exact quiet_more0 (HSM.out _)))
          go_wp2_with fail
          go_ret
          exact ⟨ret_bool (by simpa using HN.out HXY.out), (by first | exact ⟨_, rfl⟩ | exact ex_drewN)⟩
      · obtain rfl : k = A.length := by omega
        go_wp2_with fail
        go_ret
        exact ⟨ret_bool (by simpa using getD_ext HL.out HZ.out), _, rfl⟩
  · have d1 : ((A.length : Int) != (B.length : Int)) = true := by simp; omega
    have d2 : (A.length != B.length) = true := by simp; omega
    have HL := Lib.hid hl
    clear hl
    go_enter Try.func18, Try.ntmps18
    go_wp2_with fail
    go_ret
    exact ⟨ret_bool (by simpa using fun e => HL.out (by rw [e])), 0, rfl⟩
theorem row32_any (w : World) (A : Option Addr) (n c : Nat) : Calls Try.prog 32 #[.slice A n c] w fun e w' => e = .returned (.slice A n c) ∧ w = w' := by
  go_enter Try.func32, Try.ntmps32
  go_wp2_with fail
  go_ret
  exact ⟨rfl, rfl⟩
end Go.Proofs
namespace Go.Proofs.Sm
theorem out_two : Out 2 [[2, 4], [6, 8]] (some ⟨[[2, 0], [0, 4]], [[1, 0], [3, -1]], [[1, -2], [0, 1]], 2⟩) := ⟨20, by rfl⟩
theorem out_six : Out 2 [[6, 0], [0, 4]] (some ⟨[[2, 0], [0, 12]], [[1, 1], [2, 3]], [[1, -2], [-1, 3]], 2⟩) := ⟨20, by rfl⟩
end Go.Proofs.Sm
namespace Go.Proofs
open Go.RowKit Go.Shelf Go.Proofs.Sm
theorem is30_true (w : World) (va vb : Value) (x : List Int) (free : Int) (ha : IntsAt w va x) (hb : IntsAt w vb x) :
    Calls Try.prog 30 #[va, .int .i64 free, .int .i64 0, .int .i64 free, vb] w fun e w' => e = .returned (.bool true) ∧ ∃ q, w' = w.drewN q := by
  have hs := same17_any w va vb x x ha hb
  rw [decide_eq_true rfl] at hs
  have HS := Lib.hid hs
  have hd : (free == free) = true := by simp
  obtain ⟨A3, c3, rfl, -, -, -⟩ := ha.open_
  obtain ⟨A4, c4, rfl, -, -, -⟩ := hb.open_
  clear ha hb hs
  generalize x.length = lx at *
  go_enter Try.func30, Try.ntmps30
  go_wp2_with (go_at_call 17; (refine HS.out.mono ?_); rintro e w' ⟨rfl, q, rfl⟩)
  go_ret
  exact ⟨rfl, _, rfl⟩
/-- two numbers in a block just laid -/
theorem ints_two {w : World} {B : Nat} {a b : Int} (h : w.heap[B]? = some (.cells #[.int .i64 a, .int .i64 b] 3 (0, 0))) (ha : In64 a) (hb : In64 b) : IntsAt w (.slice (some ⟨B, 0, none⟩) 2 2) [a, b] := by
  refine ⟨⟨_, 2, 2, rfl, rfl, Nat.le_refl _, by simp [maxLen], fun _ => ⟨B, 0, rfl, fun j v hv => ?_⟩⟩, fun z hz => ?_⟩
  · rw [cell_of_row _ _ _ _ _ _ h, Nat.zero_add, ← hv]
    have : j = 0 ∨ j = 1 := by
      have := (List.getElem?_eq_some_iff.1 hv).1
      simp [ints] at this; omega
    rcases this with rfl | rfl <;> rfl
  · rcases List.mem_cons.1 hz with rfl | hz
    · exact ha
    · rcases List.mem_cons.1 hz with rfl | hz
      · exact hb
      · cases hz
/-- two rows in a block just laid -/
theorem tab_two {w : World} {B : Nat} {u v : Value} {x y : List Int} (h : w.heap[B]? = some (.cells #[u, v] 25 (0, 0))) (hu : IntsAt w u x) (hv : IntsAt w v y) : Tab w (.slice (some ⟨B, 0, none⟩) 2 2) [x, y] := by
  refine ⟨[u, v], ⟨_, 2, 2, rfl, rfl, Nat.le_refl _, by simp [maxLen], fun _ => ⟨B, 0, rfl, fun j z hz => ?_⟩⟩, rfl, fun i hi => ?_⟩
  · rw [cell_of_row _ _ _ _ _ _ h, Nat.zero_add]
    simpa using hz
  · have : i = 0 ∨ i = 1 := by simp at hi; omega
    rcases this with rfl | rfl
    · exact ⟨u, rfl, hu⟩
    · exact ⟨v, rfl, hv⟩
/-- a literal of two rows of two numbers -/
def lit22 (w : World) (a b c e : Int) : World := ((w.alloc (.cells #[.int .i64 a, .int .i64 b] 3)).alloc (.cells #[.int .i64 c, .int .i64 e] 3)).alloc (.cells #[.slice (some ⟨w.heap.size, 0, none⟩) 2 2, .slice (some ⟨w.heap.size + 1, 0, none⟩) 2 2] 25)
theorem lit22_below (w : World) (a b c e : Int) : Below w.heap.size w (lit22 w a b c e) := (((Below.refl _ _).alloc (Nat.le_refl _) _).alloc (by simp) _).alloc (by simp; omega) _
theorem lit22_tab (w : World) {a b c e : Int} (ha : In64 a) (hb : In64 b) (hc : In64 c) (he : In64 e) : Tab (lit22 w a b c e) (.slice (some ⟨w.heap.size + 1 + 1, 0, none⟩) 2 2) [[a, b], [c, e]] := by
  have h0 := heap_alloc_new w (.cells #[.int .i64 a, .int .i64 b] 3)
  have h1 := heap_alloc_new (w.alloc (.cells #[.int .i64 a, .int .i64 b] 3)) (.cells #[.int .i64 c, .int .i64 e] 3)
  rw [World.size_alloc] at h1
  have k1 := (Below.refl (w.alloc (.cells #[.int .i64 a, .int .i64 b] 3)).heap.size (w.alloc (.cells #[.int .i64 a, .int .i64 b] 3))).alloc (Nat.le_refl _) (.cells #[.int .i64 c, .int .i64 e] 3)
  have k2 := (Below.refl ((w.alloc (.cells #[.int .i64 a, .int .i64 b] 3)).alloc (.cells #[.int .i64 c, .int .i64 e] 3)).heap.size ((w.alloc (.cells #[.int .i64 a, .int .i64 b] 3)).alloc (.cells #[.int .i64 c, .int .i64 e] 3))).alloc (Nat.le_refl _) (.cells #[.slice (some ⟨w.heap.size, 0, none⟩) 2 2, .slice (some ⟨w.heap.size + 1, 0, none⟩) 2 2] 25)
  have h2 := heap_alloc_new ((w.alloc (.cells #[.int .i64 a, .int .i64 b] 3)).alloc (.cells #[.int .i64 c, .int .i64 e] 3)) (.cells #[.slice (some ⟨w.heap.size, 0, none⟩) 2 2, .slice (some ⟨w.heap.size + 1, 0, none⟩) 2 2] 25)
  rw [World.size_alloc, World.size_alloc] at h2
  rw [World.size_alloc] at k1
  rw [World.size_alloc, World.size_alloc] at k2
  exact tab_two h2 (ints_two ((k2.block _ (by omega)).trans ((k1.block _ (by omega)).trans h0)) ha hb) (ints_two ((k2.block _ (by omega)).trans h1) hc he)
theorem smE_two : SmE 2 [[2, 4], [6, 8]] [2, 4] [[1, 0], [3, -1]] [[1, -2], [0, 1]] 0 := .inr ⟨by decide, .inr ⟨_, out_two, rfl, rfl, rfl, rfl⟩⟩
theorem grE_six : GrE 2 [[6, 0], [0, 4]] [2, 12] 0 0 := ⟨[2, 12], _, _, 0, .inr ⟨by decide, .inr ⟨_, out_six, rfl, rfl, rfl, rfl⟩⟩, .inr ⟨rfl, rfl, rfl, rfl⟩⟩
theorem in64_small {x : Int} (h : -1000 ≤ x ∧ x ≤ 1000) : In64 x := by unfold In64; omega
set_option maxRecDepth 100000 in
set_option maxHeartbeats 1000000 in
theorem lives9_any (w : World) : Calls Try.prog 9 #[] w fun e w' => e = .returned (.bool true) ∧ Below w.heap.size w w' := by
  have HS := Lib.hid (smith11_any (lit22 w 2 4 6 8) 2 _ _ (lit22_tab w (in64_small (by omega)) (in64_small (by omega)) (in64_small (by omega)) (in64_small (by omega))) smE_two)
  have HG : Hid (∀ W, Calls Try.prog 13 #[.int .i64 2, .slice (some ⟨W.heap.size + 1 + 1, 0, none⟩) 2 2] (lit22 W 6 0 0 4) (GroupPost [2, 12] 0 0 (lit22 W 6 0 0 4))) := Lib.hid fun W => group13_any (lit22 W 6 0 0 4) 2 _ _ (lit22_tab W (in64_small (by omega)) (in64_small (by omega)) (in64_small (by omega)) (in64_small (by omega))) grE_six
  have HR := Lib.hid row32_any
  have HB0 := Lib.hid (lit22_below w 2 4 6 8)
  unfold lit22 at HS HG
  go_enter Try.func9, Try.ntmps9
  go_wp2_with (first
    | (go_at_call 11; (refine HS.out.mono ?_); rintro e w1 ⟨⟨vd, vu, vv, rfl, hd, hu, hv⟩, hb⟩
       obtain ⟨Ad, cd, rfl, -, -, -⟩ := id hd.open_
       obtain ⟨Au, cu, rfl, -, -, -⟩ := LAt.open_ hu
       obtain ⟨Av, cv, rfl, -, -, -⟩ := LAt.open_ hv
       have HB1 := Lib.hid (HB0.out.trans (hb.mono HB0.out.size))
       have H17 : Hid (∀ W, Below w1.heap.size w1 W → Calls Try.prog 17 #[.slice Ad 2 cd, .slice (some ⟨W.heap.size, 0, none⟩) 2 2] (W.alloc (.cells #[.int .i64 2, .int .i64 4] 3)) fun e w' => e = .returned (.bool true) ∧ Below W.heap.size W w') := Lib.hid fun W hW =>
         (same17_any (W.alloc (.cells #[.int .i64 2, .int .i64 4] 3)) _ _ [2, 4] [2, 4] (kept_ints.below hd (hW.alloc hW.size _)) (ints_two (heap_alloc_new W _) (in64_small (by omega)) (in64_small (by omega)))).mono fun e w' ⟨h1, q, h2⟩ => ⟨h1, by rw [h2]; exact below_drewN ((Below.refl _ _).alloc (Nat.le_refl _) _) q⟩
       have H18u : Hid (∀ W, Below w1.heap.size w1 W → Calls Try.prog 18 #[.slice Au 2 cu, .slice (some ⟨W.heap.size + 1 + 1, 0, none⟩) 2 2] (lit22 W 1 0 3 (-1)) fun e w' => e = .returned (.bool true) ∧ Below W.heap.size W w') := Lib.hid fun W hW =>
         (sameLists18_any (lit22 W 1 0 3 (-1)) _ _ [[1, 0], [3, -1]] [[1, 0], [3, -1]] (kept_tab.below hu (hW.trans ((lit22_below W 1 0 3 (-1)).mono hW.size))) (lit22_tab W (in64_small (by omega)) (in64_small (by omega)) (in64_small (by omega)) (in64_small (by omega)))).mono fun e w' ⟨h1, q, h2⟩ => ⟨h1, by rw [h2]; exact below_drewN (lit22_below W 1 0 3 (-1)) q⟩
       have H18v : Hid (∀ W, Below w1.heap.size w1 W → Calls Try.prog 18 #[.slice Av 2 cv, .slice (some ⟨W.heap.size + 1 + 1, 0, none⟩) 2 2] (lit22 W 1 (-2) 0 1) fun e w' => e = .returned (.bool true) ∧ Below W.heap.size W w') := Lib.hid fun W hW =>
         (sameLists18_any (lit22 W 1 (-2) 0 1) _ _ [[1, -2], [0, 1]] [[1, -2], [0, 1]] (kept_tab.below hv (hW.trans ((lit22_below W 1 (-2) 0 1).mono hW.size))) (lit22_tab W (in64_small (by omega)) (in64_small (by omega)) (in64_small (by omega)) (in64_small (by omega)))).mono fun e w' ⟨h1, q, h2⟩ => ⟨h1, by rw [h2]; exact below_drewN (lit22_below W 1 (-2) 0 1) q⟩
       unfold lit22 at H18u H18v
       clear hd hu hv hb)
    | (go_at_call 13; (refine (HG.out _).mono ?_); rintro e w2 ⟨⟨vt, rfl, ht⟩, hb⟩
       obtain ⟨At, ct, rfl, -, -, -⟩ := id ht.open_
       have HB2 := Lib.hid ((lit22_below w1 6 0 0 4).trans (hb.mono (lit22_below w1 6 0 0 4).size))
       have H30 : Hid (∀ W, Below w2.heap.size w2 W → Calls Try.prog 30 #[.slice At 2 ct, .int .i64 0, .int .i64 0, .int .i64 0, .slice (some ⟨W.heap.size, 0, none⟩) 2 2] (W.alloc (.cells #[.int .i64 2, .int .i64 12] 3)) fun e w' => e = .returned (.bool true) ∧ Below W.heap.size W w') := Lib.hid fun W hW =>
         (is30_true (W.alloc (.cells #[.int .i64 2, .int .i64 12] 3)) _ _ [2, 12] 0 (kept_ints.below ht (hW.alloc hW.size _)) (ints_two (heap_alloc_new W _) (in64_small (by omega)) (in64_small (by omega)))).mono fun e w' ⟨h1, q, h2⟩ => ⟨h1, by rw [h2]; exact below_drewN ((Below.refl _ _).alloc (Nat.le_refl _) _) q⟩
       clear ht hb)
    | (go_at_call 32; (refine (HR.out _ _ _ _).mono ?_); rintro e w' ⟨rfl, rfl⟩)
    | (go_at_call 17; (refine (H17.out w2 HB2.out).mono ?_); rintro e w3 ⟨rfl, hb⟩; have HB3 := Lib.hid hb; clear hb)
    | (go_at_call 18; (with_reducible refine (H18u.out w3 (HB2.out.trans (HB3.out.mono HB2.out.size))).mono ?_); rintro e w4 ⟨rfl, hb⟩; have HB4 := Lib.hid (HB3.out.trans (hb.mono HB3.out.size)); clear hb)
    | (go_at_call 18; (with_reducible refine (H18v.out w4 (HB2.out.trans (HB4.out.mono HB2.out.size))).mono ?_); rintro e w5 ⟨rfl, hb⟩; have HB5 := Lib.hid (HB4.out.trans (hb.mono HB4.out.size)); clear hb)
    | (go_at_call 30; (refine (H30.out w5 HB5.out).mono ?_); rintro e w6 ⟨rfl, hb⟩; have HB6 := Lib.hid (HB5.out.trans (hb.mono HB5.out.size)); clear hb))
  go_ret
  exact ⟨rfl, HB1.out.trans ((HB2.out.trans (HB6.out.mono HB2.out.size)).mono HB1.out.size)⟩
end Go.Proofs
namespace Go.Proofs
open Go.RowKit Go.Shelf Go.Proofs.Sm
section
variable {base : Nat} {w w' : World} {v : Value} {bl cs : Nat → Nat} {m : Mat}
theorem MatM.same (h : MatM base w v bl cs m) (hv : ∀ r, v.ownBlock = some r → w'.heap[r]? = w.heap[r]?) (hb : ∀ i, i < m.length → w'.heap[bl i]? = w.heap[bl i]?) : MatM base w' v bl cs m :=
  ⟨owns_keep h.out hv, fun i hi => let ⟨a, b, c⟩ := h.row i hi; ⟨a, b.keep (hb i hi), c⟩, h.inj⟩
theorem MatM.row_ty (h : MatM base w v bl cs m) {i : Nat} (hi : i < m.length) : ∃ C, w.heap[bl i]? = some (.cells C 3 (0, 0)) := by
  obtain ⟨-, ⟨C, hC, -⟩, -⟩ := h.row i hi
  exact ⟨C, hC⟩
theorem MatM.nil (base : Nat) (w : World) : MatM base w (.slice none 0 0) (fun _ => 0) (fun _ => 0) [] := ⟨World.ownsRow_nil _ _ _ _, fun _i hi => absurd hi (Nat.not_lt_zero _), fun _i _j hi => absurd hi (Nat.not_lt_zero _)⟩
theorem MatM.form (h : MatM base w v bl cs m) : ∃ A c, v = .slice A m.length c := owns_form h.out
theorem MatM.tab (h : MatM base w v bl cs m) (hf : ∀ y ∈ m, Fits y) : Tab w v m :=
  ⟨_, sl_of_owns h.out, by simp, fun i hi => by
    obtain ⟨-, hX, h1, h2⟩ := h.row i hi
    exact ⟨.slice (some ⟨bl i, 0, none⟩) (m.getD i []).length (cs i), by simp only [List.getElem?_map, List.getElem?_range hi, Option.map_some], hX.ints rfl h1 h2 (hf _ (by rw [List.getD_eq_getElem?_getD, List.getElem?_eq_getElem hi]; exact List.getElem_mem hi))⟩⟩
set_option maxRecDepth 10000 in
/-- a row of the call's own joins -/
theorem MatM.push (h : MatM base w v bl cs m) (hbw : base ≤ w.heap.size) {g c : Nat} {xs : List Int} (hx : XsAt w g xs) (hg : base ≤ g) (hc : xs.length ≤ c) (hcm : c ≤ 9223372036854775807) (hnew : ∀ i, i < m.length → bl i ≠ g) (hl : m.length ≤ 1000000) :
    ∃ A' c' w', (Builtin.append_ #[22, 22] 22 #[v, .slice (some ⟨w.heap.size, 0, none⟩) 1 1]).run Try.prog (w.alloc (.cells #[.slice (some ⟨g, 0, none⟩) xs.length c] 25)) = .ok (.slice A' (m.length + 1) c') w' ∧
      (∃ bl' cs', MatM base w' (.slice A' (m.length + 1) c') bl' cs' (m ++ [xs])) ∧ w.grownBy w' v.ownBlock := by
  obtain ⟨A', c', w', hr, ho, hgr, hw⟩ := run_push (ty := 22) Try.underlying22 info24p rfl (by omega) w base v m.length _ h.out (.slice (some ⟨g, 0, none⟩) xs.length c) rfl (by omega) hbw
  have hkeep : ∀ (p : Nat) (C : Array Value), w.heap[p]? = some (.cells C 3 (0, 0)) → w'.heap[p]? = w.heap[p]? := fun p C hp => hgr.block p (Array.getElem?_eq_some_iff.1 hp).1 (fun e2 => by
    obtain ⟨-, C', hC'⟩ := owns_block h.out p e2.symm
    rw [hp] at hC'
    injection hC' with h5
    injection h5 with _ h6 _
    exact absurd h6 (by decide))
  have hgl : ∀ i, i < m.length → (m ++ [xs]).getD i [] = m.getD i [] := fun i hi => by simp [List.getD_eq_getElem?_getD, List.getElem?_append_left hi]
  have hgl2 : (m ++ [xs]).getD m.length [] = xs := by simp [List.getD_eq_getElem?_getD]
  have hl1 : (m ++ [xs]).length = m.length + 1 := by simp
  obtain ⟨Cx, hCx, -⟩ := id hx
  refine ⟨A', c', w', hr, ⟨fun i => if i = m.length then g else bl i, fun i => if i = m.length then c else cs i, ?_, fun i hi => ?_, fun i j hi hj e => ?_⟩, hgr⟩
  · have e2 : (List.range (m.length + 1)).map (fun i => Value.slice (some ⟨if i = m.length then g else bl i, 0, none⟩) ((m ++ [xs]).getD i []).length (if i = m.length then c else cs i)) = ((List.range m.length).map fun i => Value.slice (some ⟨bl i, 0, none⟩) (m.getD i []).length (cs i)) ++ [.slice (some ⟨g, 0, none⟩) xs.length c] := by
      rw [List.range_succ, List.map_append]
      congr 1
      · refine List.map_congr_left fun i hi => ?_
        have hi' := List.mem_range.1 hi
        rw [if_neg (by omega), if_neg (by omega), hgl i hi']
      · simp only [List.map_cons, List.map_nil, hgl2, if_true]
    rw [hl1, e2]
    exact ho
  · rw [hl1] at hi
    by_cases e : i = m.length
    · subst e
      rw [if_pos rfl, if_pos rfl, hgl2]
      exact ⟨hg, hx.keep (hkeep g Cx hCx), hc, hcm⟩
    · have hi' : i < m.length := by omega
      rw [if_neg e, if_neg e, hgl i hi']
      obtain ⟨a1, a2, a3⟩ := h.row i hi'
      obtain ⟨C, hC⟩ := h.row_ty hi'
      exact ⟨a1, a2.keep (hkeep _ C hC), a3⟩
  · rw [hl1] at hi hj
    by_cases c1 : i = m.length
    · by_cases c2 : j = m.length
      · omega
      · simp only [if_pos c1, if_neg c2] at e
        exact absurd e.symm (hnew j (by omega))
    · by_cases c2 : j = m.length
      · simp only [if_neg c1, if_pos c2] at e
        exact absurd e (hnew i (by omega))
      · simp only [if_neg c1, if_neg c2] at e
        exact h.inj i j (by omega) (by omega) e
end
/-- a Taker in memory: its list, which lies below its box, and its place -/
structure TkM (b : Nat) (w : World) (A : Option Addr) (c : Nat) (l : List Int) (at_ : Nat) : Prop where
  box : w.heap[b]? = some (.cells #[.slice A l.length c, .int .i64 (at_ : Int)] 39 (0, 0))
  list : ∀ w', (∀ p, p < b → w'.heap[p]? = w.heap[p]?) → IntsAt w' (.slice A l.length c) l
  le : at_ ≤ l.length
theorem TkM.start {w : World} {A : Option Addr} {c : Nat} {l : List Int} (h : IntsAt w (.slice A l.length c) l) : TkM w.heap.size (w.alloc (.cells #[.slice A l.length c, .int .i64 0] 39)) A c l 0 :=
  ⟨heap_alloc_new w _, fun _w' hw => kept_ints _ _ _ _ (fun k hk => (hw k hk).trans (Below.heap_alloc w _ k hk)) h, Nat.zero_le _⟩
theorem TkM.cells {b : Nat} {w : World} {A : Option Addr} {c : Nat} {l : List Int} {k : Nat} (h : TkM b w A c l k) : w.cell? ⟨b, 0, none⟩ = some (.slice A l.length c) ∧ w.cell? ⟨b, 1, none⟩ = some (.int .i64 (k : Int)) ∧ w.frozen? ⟨b, 1, none⟩ = false :=
  ⟨by rw [cell_of_row _ _ _ _ _ _ h.box]; rfl, by rw [cell_of_row _ _ _ _ _ _ h.box]; rfl, by simp [World.frozen?, h.box]⟩
theorem TkM.keep {b : Nat} {w w' : World} {A : Option Addr} {c : Nat} {l : List Int} {k : Nat} (h : TkM b w A c l k) (hb : ∀ p, p ≤ b → w'.heap[p]? = w.heap[p]?) : TkM b w' A c l k :=
  ⟨(hb b (Nat.le_refl _)).trans h.box, fun w'' hw => h.list w'' fun p hp => (hw p hp).trans (hb p (by omega)), h.le⟩
theorem TkM.lt {b : Nat} {w : World} {A : Option Addr} {c : Nat} {l : List Int} {k : Nat} (h : TkM b w A c l k) : b < w.heap.size := (Array.getElem?_eq_some_iff.1 h.box).1
theorem TkM.put {b : Nat} {w : World} {A : Option Addr} {c : Nat} {l : List Int} {k : Nat} (h : TkM b w A c l k) (hk : k < l.length) : TkM b (w.setCell ⟨b, 1, none⟩ (.int .i64 ((k + 1 : Nat) : Int))) A c l (k + 1) :=
  ⟨by rw [box_set h.box]; rfl, fun w' hw => h.list w' fun p hp => (hw p hp).trans (Below.heap_setCell w ⟨b, 1, none⟩ _ p (by show p ≠ b; omega)), hk⟩
/-- the number handed out at k, below n -/
def takeV (l : List Int) (k : Nat) (n : Int) : Int := if k < l.length then l.getD k 0 % n else 0
def takeN (l : List Int) (k : Nat) : Nat := if k < l.length then k + 1 else k
end Go.Proofs
