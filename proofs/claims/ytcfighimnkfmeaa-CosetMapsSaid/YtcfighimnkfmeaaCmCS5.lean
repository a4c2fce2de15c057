/- (system).rewrite; rewrite.Rewrite; Presentations: which are valid, plainly; the letters of a word; pres.Check; Presentations of subgroups, plainly: which relators, in which order, and when they are too long; Columns of letters; where a word leads; fine; Complete; slices.ContainsFunc at lists of lists; coset.Complete; plain; the reference's Images; Words that numbers select: Turn, Letter, WordOf; WordsOf; power; the words of a law. -/
import Derived.Test.YtcfighimnkfmeaaCmCS4
import Derived.RangeFuncLeaves
import Derived.Test.YtcfighimnkfmeaaCmCS3
namespace Go.Proofs
open Go.RowKit Go.Shelf Go.Proofs.Ct Go.Maps
attribute [local simp, local go_sem] wide_fn wide_depth
attribute [local go_sem] Oper.semAt_some
section
variable {o : Oper} {a : Act} {w w' : World} {n : Nat} {Q : Exit → Act → World → Prop} {v : Value}
end
theorem wpOpIn_of {F : Fence} {n : Nat} {P : Program} {ops : Array Oper} {Q : Exit → Act → World → Prop} {i : Nat} {o : Oper} {K : Act → World → Prop} {a : Act} {w : World} (ho : ops[i]? = some o) (hg : o.guard = none) (h : o.wpIn F n P a w K Q) : wpOpIn F n P ops Q i K a w := by
  unfold wpOpIn
  rw [ho]
  simp only [Region.wanted, hg, if_true]
  exact h
theorem r_assign {o : Oper} {a : Act} {w : World} {v : Value} (x : Operand) (ho : o.op = .assign x) (hx : a.eval x = v) : (execOp a.eval o).run Try.prog w = .ok (.value v) w := by
  unfold execOp; simp only [ho, hx]; rfl
/-- the rewriting under way: its system's box, the list it writes -/
structure RwSt (w : World) (cs : Array Value) (B : Nat) (X : List Int) (W : World) : Prop where
  below : Below w.heap.size w W
  box : W.heap[w.heap.size]? = some (.cells cs 95 (0, 0))
  out : ∃ A c, W.heap[w.heap.size + 1]? = some (.cells #[.slice A X.length c] 25 (0, 0)) ∧ OwnI B W (.slice A X.length c) X
theorem RwSt.below' {w W W' : World} {cs : Array Value} {B : Nat} {X : List Int} (h : RwSt w cs B X W) (hb : Below W.heap.size W W') : RwSt w cs B X W' :=
  ⟨h.below.trans (hb.mono h.below.size), (hb.block _ (Array.getElem?_eq_some_iff.1 h.box).1).trans h.box, let ⟨A, c, h1, h2⟩ := h.out; ⟨A, c, (hb.block _ (Array.getElem?_eq_some_iff.1 h1).1).trans h1, owns_below h2 hb⟩⟩
theorem RwSt.other {w W W' : World} {cs : Array Value} {B : Nat} {X : List Int} (h : RwSt w cs B X W) (l : Nat) (h1 : w.heap.size + 1 < l) (he : W'.os = W.os ∧ W'.tape = W.tape ∧ W'.output = W.output ∧ W.heap.size ≤ W'.heap.size)
    (hk : ∀ k, k ≠ l → W'.heap[k]? = W.heap[k]?) (hl : l < B ∨ ∃ o : Obj, W.heap[l]? = some o ∧ o.isCells = false) : RwSt w cs B X W' := by
  refine ⟨h.below.trans ⟨he.1, he.2.1, he.2.2.1, he.2.2.2, fun k hk' => hk k (by omega)⟩, (hk _ (by omega)).trans h.box, ?_⟩
  obtain ⟨A, c, h2, h3⟩ := h.out
  refine ⟨A, c, (hk _ (by omega)).trans h2, owns_keep h3 fun r hr => hk r fun e => ?_⟩
  obtain ⟨h4, C, h5⟩ := owns_block h3 r hr
  rcases hl with hl | ⟨o, h6, h7⟩
  · omega
  · rw [e, h6] at h5; cases h5; cases h7
theorem RwSt.push {w W : World} {cs : Array Value} {B : Nat} {X : List Int} (h : RwSt w cs B X W) (hB : w.heap.size + 2 ≤ B) (hBW : B ≤ W.heap.size) (hX : X.length ≤ 1000000) (z : Int) : ∃ A c A' c' W', W.cell? ⟨w.heap.size + 1, 0, none⟩ = some (.slice A X.length c) ∧
    (Builtin.append_ #[25, 25] 25 #[.slice A X.length c, .slice (some ⟨W.heap.size, 0, none⟩) 1 1]).run Try.prog (W.alloc (.cells #[.int .i64 z] 3)) = .ok (.slice A' (X.length + 1) c') W' ∧
    (W'.cell? ⟨w.heap.size + 1, 0, none⟩ = some (.slice A X.length c) ∧ W'.frozen? ⟨w.heap.size + 1, 0, none⟩ = false) ∧
    Turned (w.heap.size + 1) B W (W'.setCell ⟨w.heap.size + 1, 0, none⟩ (.slice A' (X.length + 1) c')) ∧ RwSt w cs B (X ++ [z]) (W'.setCell ⟨w.heap.size + 1, 0, none⟩ (.slice A' (X.length + 1) c')) := by
  obtain ⟨A, c, h1, h2⟩ := h.out
  obtain ⟨A', c', W', hr, ho, hg, hw⟩ := push_int 25 25 Try.underlying25 W B _ X h2 z (by omega) hBW
  have hrow : ∀ r, (Value.slice A X.length c).ownBlock = some r → B ≤ r ∧ ∃ o : Obj, W.heap[r]? = some o ∧ o.isCells = true := fun r hr => by
    obtain ⟨h4, C, h5⟩ := owns_block h2 r hr
    exact ⟨h4, _, h5, rfl⟩
  have hne : ∀ k, k < W.heap.size → k < B → W'.heap[k]? = W.heap[k]? := fun k hk hkB => hg.block k hk fun e => by have := (hrow k e.symm).1; omega
  have hwl := h.below.size
  have h1lt := (Array.getElem?_eq_some_iff.1 h1).1
  have h1' := (hne _ h1lt (by omega)).trans h1
  have hset : ∀ k, k ≠ w.heap.size + 1 → (W'.setCell ⟨w.heap.size + 1, 0, none⟩ (.slice A' (X.length + 1) c')).heap[k]? = W'.heap[k]? := fun k hk => Below.heap_setCell W' ⟨w.heap.size + 1, 0, none⟩ _ k hk
  refine ⟨A, c, A', c', W', (cell_of1 h1).1, hr, cell_of1 h1', (Turned.grown hg hrow).trans (Turned.set _), ?_, ?_, A', c', ?_, ?_⟩
  · have hsz := hg.size
    exact h.below.trans ⟨hg.os, hg.tape, hg.output, by simpa [World.setCell] using hsz, fun k hk => (hset k (by omega)).trans (hne k (by omega) (by omega))⟩
  · exact (hset _ (by omega)).trans ((hne _ (by omega) (by omega)).trans h.box)
  · simp [World.setCell, Array.getElem?_modify, h1']
  · rw [List.length_append]
    refine owns_keep ho fun r hr' => hset r fun e => ?_
    obtain ⟨h4, C, h5⟩ := owns_block ho r hr'
    omega
end Go.Proofs
namespace Go.Proofs
open Go.RowKit Go.Shelf Go.Proofs.Ct Go.Maps
/-- no letter of a table of g generators -/
def letBad (g : Nat) (x : Int) : Bool := decide (x = 0) || decide (x < -(g : Int)) || decide ((g : Int) < x)
theorem letsOk_of {g : Nat} {w : List Int} (h : w.any (letBad g) = false) : LetsOk g w := fun x hx => by
  have := List.any_eq_false.1 h x hx
  unfold letBad at this
  simp at this
  omega
end Go.Proofs
namespace Go.Proofs
open Go.RowKit Go.Shelf Go.Proofs.Ct Go.Maps
/-- the error of the relator k -/
def presBad (g : Nat) (rels : List W) (k : Nat) : Int := if 4000 < sumTo rels (k + 1) then 4 else if (rels.getD k []).any (letBad g) = true then 2 else 0
def presE (g : Int) (rels : List W) : Int :=
  if g < 1 ∨ 16 < g then 2 else if 100 < rels.length then 4 else
  match first (fun k => decide (presBad g.toNat rels k ≠ 0)) rels.length with
  | some k => presBad g.toNat rels k
  | none => 0
theorem presE_some {g : Nat} {rels : List W} (hg : 1 ≤ g ∧ g ≤ 16) (hl : rels.length ≤ 100) {k : Nat} (hk : k < rels.length) (hz : ∀ j, j < k → presBad g rels j = 0) (hb : presBad g rels k ≠ 0) : presE g rels = presBad g rels k := by
  unfold presE
  rw [if_neg (by omega), if_neg (by omega), first_some hk (by simpa using hb) (fun j hj => by simpa using hz j hj)]
  rfl
theorem presE_none {g : Nat} {rels : List W} (hg : 1 ≤ g ∧ g ≤ 16) (hl : rels.length ≤ 100) (hz : ∀ j, j < rels.length → presBad g rels j = 0) : presE g rels = 0 := by
  unfold presE
  rw [if_neg (by omega), if_neg (by omega), first_none (fun j hj => by simpa using hz j hj)]
theorem pred121 (g B : Nat) (vr : Value) (w : World) (hg : g ≤ 16) (hc : w.cell? ⟨B, 0, none⟩ = some (.int .i64 (g : Int))) (_hc1 : w.cell? ⟨B, 1, none⟩ = some vr) :
    PredW 121 #[.pointer (some ⟨B, 0, none⟩)] (fun x => -9223372036854775808 ≤ x ∧ x ≤ 9223372036854775807) (letBad g) w := fun x q hx => by
  have hcq : (w.drewN q).cell? ⟨B, 0, none⟩ = some (.int .i64 (g : Int)) := hc
  show Calls Try.prog 121 #[.int .i64 x, .pointer (some ⟨B, 0, none⟩)] (w.drewN q) _
  have h0 : letBad g x = (decide (x = 0) || decide (x < -(g : Int)) || decide ((g : Int) < x)) := rfl
  have H0 := Lib.hid h0
  clear h0
  generalize hW : w.drewN q = W at *
  have HW := Lib.hid hW
  clear hW
  have hg0 : (0 : Int) ≤ (g : Int) := Int.natCast_nonneg _
  have hg1 : (g : Int) ≤ 16 := by omega
  by_cases h1 : x = 0
  · subst h1
    go_enter Try.func121, Try.ntmps121
    go_wp2_with fail
    go_ret
    exact ⟨ret_bool (by rw [H0.out]; simp), q, HW.out.symm⟩
  · have d1 : (x == 0) = false := by simpa using h1
    by_cases h2 : x < -(g : Int)
    · go_enter Try.func121, Try.ntmps121
      go_wp2_with fail
      go_ret
      exact ⟨ret_bool (by rw [H0.out]; simp [h2]), q, HW.out.symm⟩
    · by_cases h3 : (g : Int) < x
      · go_enter Try.func121, Try.ntmps121
        go_wp2_with fail
        go_ret
        exact ⟨ret_bool (by rw [H0.out]; simp [h3]), q, HW.out.symm⟩
      · go_enter Try.func121, Try.ntmps121
        go_wp2_with fail
        go_ret
        exact ⟨ret_bool (by rw [H0.out]; simp [h1, h2, h3]), q, HW.out.symm⟩
theorem eg121 : ∀ args w, (callFunc 121 args).run Try.prog w = .ok (.enter 121 args) w := enters_of Try.func121 (by kernel_rfl) rfl
end Go.Proofs
namespace Go.Proofs
open Go.RowKit Go.Shelf Go.Proofs.Ct Go.Maps
def PresPost (g : Int) (rels : List W) (w : World) (e : Ending) (w' : World) : Prop := (∃ y, e = .returned (.tuple #[.int .i64 (presE g rels), .int .i64 y])) ∧ Below w.heap.size w w'
theorem presE_range {g : Int} {rels : List W} (h : g < 1 ∨ 16 < g) : presE g rels = 2 := by unfold presE; rw [if_pos h]
theorem presE_many {g : Int} {rels : List W} (h : ¬ (g < 1 ∨ 16 < g)) (h2 : 100 < rels.length) : presE g rels = 4 := by unfold presE; rw [if_neg h, if_pos h2]
theorem sumTo_succ (rels : List W) (k : Nat) : sumTo rels (k + 1) = sumTo rels k + (rels.getD k []).length := rfl
theorem presBad_long {g : Nat} {rels : List W} {k : Nat} (h : 4000 < sumTo rels (k + 1)) : presBad g rels k = 4 := by unfold presBad; rw [if_pos h]
theorem presBad_let {g : Nat} {rels : List W} {k : Nat} (h : ¬ 4000 < sumTo rels (k + 1)) (h2 : (rels.getD k []).any (letBad g) = true) : presBad g rels k = 2 := by unfold presBad; rw [if_neg h, if_pos h2]
theorem presBad_ok {g : Nat} {rels : List W} {k : Nat} (h : ¬ 4000 < sumTo rels (k + 1)) (h2 : (rels.getD k []).any (letBad g) = false) : presBad g rels k = 0 := by unfold presBad; rw [if_neg h, h2]; rfl
set_option maxRecDepth 100000 in
set_option maxHeartbeats 1000000 in
theorem pcheck78_any (w : World) (vr : Value) (g : Int) (rels : List W) (hR : Tab w vr rels) : Calls Try.prog 78 #[.agg #[.int .i64 g, vr]] w (PresPost g rels w) := by
  obtain ⟨Ar, cr, rfl, r1, r2, r3⟩ := hR.open_
  have hbel : Below w.heap.size w (w.alloc (.cells #[.int .i64 g, .slice Ar rels.length cr] 40)) := (Below.refl _ _).alloc (Nat.le_refl _) _
  have HBE := Lib.hid hbel
  have HR := Lib.hid r3
  have hnew := heap_alloc_new w (.cells #[.int .i64 g, .slice Ar rels.length cr] 40)
  have hn0 : (0 : Int) ≤ (rels.length : Int) := Int.natCast_nonneg _
  by_cases h1 : g < 1 ∨ 16 < g
  · have HZ := Lib.hid (presE_range (rels := rels) h1)
    clear hR r3 hbel hnew
    by_cases h2 : g < 1
    · clear h1
      go_enter Try.func78, Try.ntmps78
      go_wp2_with fail
      go_ret2
      exact ⟨⟨_, ret_pair HZ.out.symm rfl⟩, HBE.out⟩
    · have h3 : 16 < g := by omega
      clear h1
      go_enter Try.func78, Try.ntmps78
      go_wp2_with fail
      go_ret2
      exact ⟨⟨_, ret_pair HZ.out.symm rfl⟩, HBE.out⟩
  · obtain ⟨gn, rfl⟩ : ∃ gn : Nat, g = gn := ⟨g.toNat, by omega⟩
    have hg1 : ¬ (gn : Int) < 1 := by omega
    have hg2 : ¬ (16 : Int) < (gn : Int) := by omega
    by_cases h4 : 100 < rels.length
    · have h4' : (100 : Int) < (rels.length : Int) := by omega
      have HZ := Lib.hid (presE_many (rels := rels) h1 h4)
      clear hR r3 hbel hnew h1 h4
      go_enter Try.func78, Try.ntmps78
      go_wp2_with fail
      go_ret2
      exact ⟨⟨_, ret_pair HZ.out.symm rfl⟩, HBE.out⟩
    · have h4' : ¬ (100 : Int) < (rels.length : Int) := by omega
      have h4'' : (rels.length : Int) ≤ 100 := by omega
      have HS : Hid (∀ k, k < rels.length → (∀ j, j < k → presBad gn rels j = 0) → presBad gn rels k ≠ 0 → presE (gn : Int) rels = presBad gn rels k) := Lib.hid fun k => presE_some (by omega) (by omega)
      have HN := Lib.hid (@presE_none gn rels (by omega) (by omega))
      have HP : Hid (∀ q, PredW 121 #[.pointer (some ⟨w.heap.size, 0, none⟩)] (fun x => -9223372036854775808 ≤ x ∧ x ≤ 9223372036854775807) (letBad gn) ((w.alloc (.cells #[.int .i64 (gn : Int), .slice Ar rels.length cr] 40)).drewN q)) := Lib.hid fun q => pred121 gn w.heap.size (.slice Ar rels.length cr) _ (by omega) (cell_of2 hnew).1 (cell_of2 hnew).2
      clear hR r3 hbel hnew h1 h4
      go_enter Try.func78, Try.ntmps78
      go_wp2_with fail
      generalize hw0 : w.alloc (.cells #[.int .i64 (gn : Int), .slice Ar rels.length cr] 40) = w0 at *
      clear hw0
      go_loopw [4, 24] (fun l i wr => ∃ k s : Nat, i = .int .i64 k ∧ k ≤ rels.length ∧ l = .int .i64 (4000 - (s : Int)) ∧ s ≤ 4000 ∧ Hid (s = sumTo rels k ∧ ∀ j, j < k → presBad gn rels j = 0) ∧ ∃ q, wr = w0.drewN q) (fun _ i _ => rels.length - (intOf i).toNat)
      case atStart => exact ⟨0, 0, rfl, by omega, rfl, by omega, Lib.hid ⟨rfl, fun j hj => absurd hj (by omega)⟩, 0, rfl⟩
      case round =>
        obtain ⟨k, s, rfl, hk, rfl, hs, HK, q, rfl⟩ := hrel
        have hk0 : (0 : Int) ≤ (k : Int) := Int.natCast_nonneg _
        by_cases hlt : k < rels.length
        · have hlt' : (k : Int) < (rels.length : Int) := by omega
          obtain ⟨b, o, rfl, hcc⟩ := HR.out (by omega)
          obtain ⟨u, hu, hI⟩ := hcc k hlt
          have hu' : (w0.drewN q).cell? ⟨b, o + k, none⟩ = some u := (HBE.out.cell (p := ⟨b, o + k, none⟩) (World.block_lt_of_cell? w _ hu)).trans hu
          have HI := Lib.hid (hI.below HBE.out)
          obtain ⟨Au, cu, rfl, u1, u2, -⟩ := hI.open_
          have HSU := Lib.hid (sumTo_succ rels k)
          have HBL := Lib.hid (@presBad_long gn rels k)
          have HBT := Lib.hid (@presBad_let gn rels k)
          have HBO := Lib.hid (@presBad_ok gn rels k)
          have HSK : Hid (presBad gn rels k ≠ 0 → presE gn rels = presBad gn rels k) := Lib.hid (HS.out k hlt HK.out.2)
          have HNX : Hid (presBad gn rels k = 0 → ∀ j, j < k + 1 → presBad gn rels j = 0) := Lib.hid fun h => all_succ HK.out.2 h
          have HSM := Lib.hid HK.out.1
          have HPR := Lib.hid (has74_any 121 _ _ _ (w0.drewN q) eg121 (HP.out q) _ (rels.getD k []) (HI.out.drewN q) (fun x hx => HI.out.2 x hx))
          have hln0 : (0 : Int) ≤ ((rels.getD k []).length : Int) := Int.natCast_nonneg _
          clear hcc hI hu HI HS HN HP HR
          generalize hpe : presE (gn : Int) rels = pe at *
          have HPE := Lib.hid hpe
          clear hpe
          generalize presBad gn rels k = pb at *
          generalize hsm : sumTo rels (k + 1) = sm at *
          have HSME := Lib.hid hsm
          clear hsm
          generalize (rels.getD k []).any (letBad gn) = lb at *
          generalize (rels.getD k []).length = L at *
          have hs0 : (0 : Int) ≤ (s : Int) := Int.natCast_nonneg _
          have hs1 : (s : Int) ≤ 4000 := by omega
          have hL1 : (L : Int) ≤ 9223372036854775807 := by omega
          by_cases hov : 4000 < s + L
          · have hov' : (4000 : Int) - (s : Int) - (L : Int) < 0 := by omega
            have HZ : Hid (pe = 4) := Lib.hid (by have h1 := HBL.out (by rw [HSU.out, ← HSM.out]; exact hov); rw [HSK.out (by omega), h1])
            clear hov
            go_wp2_with fail
            go_ret2
            exact ⟨⟨_, ret_pair (by rw [HPE.out, HZ.out]) rfl⟩, below_drewN HBE.out _⟩
          · have hov' : ¬ (4000 : Int) - (s : Int) - (L : Int) < 0 := by omega
            have HSV := Lib.hid hov
            have hsl : s + L ≤ 4000 := by omega
            clear hov
            cases lb with
            | true =>
              have HZ : Hid (pe = 2) := Lib.hid (by have h1 := HBT.out (by rw [HSU.out, ← HSM.out]; exact HSV.out) rfl; rw [HSK.out (by omega), h1])
              go_wp2_with (go_at_call 74; (refine HPR.out.mono ?_); rintro e w' ⟨rfl, q', rfl⟩)
              go_ret2
              exact ⟨⟨_, ret_pair (by rw [HPE.out, HZ.out]) rfl⟩, below_drewN HBE.out _⟩
            | false =>
              have HZ : Hid (∀ j, j < k + 1 → presBad gn rels j = 0) := Lib.hid (HNX.out (HBO.out (by rw [HSU.out, ← HSM.out]; exact HSV.out) rfl))
              go_wp2_with (go_at_call 74; (refine HPR.out.mono ?_); rintro e w' ⟨rfl, q', rfl⟩)
              go_roundw
              case rel => exact ⟨k + 1, s + L, by go_num, by omega, congrArg (Value.int .i64) (by omega), hsl, Lib.hid ⟨by rw [HSME.out, HSU.out, HSM.out], HZ.out⟩, (by first | exact ⟨_, rfl⟩ | exact ex_drewN)⟩
              case measure => simp [intOf]; omega
        · obtain rfl : k = rels.length := by omega
          have HZ := Lib.hid (HN.out HK.out.2)
          clear HS HN HP HR
          go_wp2_with fail
          go_ret2
          exact ⟨⟨_, ret_pair HZ.out.symm rfl⟩, below_drewN HBE.out _⟩
end Go.Proofs
namespace Go.Proofs.Ct
/-- the column of a letter -/
def col (x : Int) : Nat := if 0 < x then (2 * x - 2).toNat else (-2 * x - 1).toNat
/-- where a word leads; -1: nowhere -/
def leadTo (t : Tb) (r : Int) (w : W) (k : Nat) : Int := foldTo (fun k r => if r < 0 then r else t.at r.toNat (col (w.getD k 0))) k r
def leads (t : Tb) (r : Int) (w : W) : Int := leadTo t r w w.length
/-- all words of a list lead from r to r -/
def staysB (t : Tb) (r : Int) (l : List W) : Bool := l.all fun w => decide (leads t r w = r)
def holdsB (rels sub : List W) (t : Tb) : Bool := complete t && staysB t 0 sub && (List.range t.length).all fun r => staysB t (r : Int) rels
theorem leadTo_succ (t : Tb) (r : Int) (w : W) (k : Nat) : leadTo t r w (k + 1) = if leadTo t r w k < 0 then leadTo t r w k else t.at (leadTo t r w k).toNat (col (w.getD k 0)) := rfl
theorem leadTo_neg {t : Tb} {r : Int} {w : W} {k : Nat} (h : leadTo t r w k < 0) : ∀ m, leadTo t r w (k + m) = leadTo t r w k
  | 0 => rfl
  | m + 1 => by
    have := leadTo_neg h m
    rw [← Nat.add_assoc, leadTo_succ, this, if_pos h]
theorem leads_neg {t : Tb} {r : Int} {w : W} {k : Nat} (hk : k ≤ w.length) (h : leadTo t r w k < 0) : leads t r w < 0 := by
  have := leadTo_neg h (w.length - k)
  unfold leads
  rw [show k + (w.length - k) = w.length by omega] at this
  omega
end Go.Proofs.Ct
namespace Go.Proofs
open Go.RowKit Go.Shelf Go.Proofs.Ct Go.Maps
theorem col_lt {g : Nat} {x : Int} (h : -(g : Int) ≤ x ∧ x ≤ g ∧ x ≠ 0) : col x < 2 * g := by
  unfold col
  split <;> omega
theorem col_pos {x : Int} (h : 0 < x) : ((col x : Nat) : Int) = 2 * (x - 1) := by unfold col; rw [if_pos h]; omega
theorem col_neg {x : Int} (h : ¬ 0 < x) (h0 : x ≠ 0) : ((col x : Nat) : Int) = 2 * (-x - 1) + 1 := by unfold col; rw [if_neg h]; omega
theorem col133_any (w : World) (x : Int) (h : -1000000 ≤ x ∧ x ≤ 1000000 ∧ x ≠ 0) : Calls Try.prog 133 #[.int .i64 x] w fun e w' => e = .returned (.int .i64 (col x : Nat)) ∧ w = w' := by
  obtain ⟨h1, h2, h3⟩ := h
  by_cases hp : x < 0
  · have HC := Lib.hid (col_neg (by omega : ¬ 0 < x) h3)
    go_enter Try.func133, Try.ntmps133
    go_wp2_with fail
    go_ret
    exact ⟨ret_int (by rw [HC.out]), (by first | trivial | rfl)⟩
  · have HC := Lib.hid (col_pos (by omega : 0 < x))
    go_enter Try.func133, Try.ntmps133
    go_wp2_with fail
    go_ret
    exact ⟨ret_int (by rw [HC.out]), (by first | trivial | rfl)⟩
/-- where a word leads stays in the table, or is nowhere -/
theorem leadTo_bd {g : Nat} {t : Tb} (hg : TGood g t) {ws : List Int} (hl : LetsOk g ws) {r : Int} (hr : -1 ≤ r ∧ r < t.length) : ∀ k, k ≤ ws.length → -1 ≤ leadTo t r ws k ∧ leadTo t r ws k < t.length
  | 0, _ => hr
  | k + 1, hk => by
    have ih := leadTo_bd hg hl hr k (by omega)
    rw [leadTo_succ]
    split
    · exact ih
    · exact hg.bd _ (by omega) _ (col_lt (hl.at_ (by omega)))
theorem ret_ib {k : IntKind} {a c : Int} {b d : Bool} (h : a = c) (h' : b = d) : Ending.returned (.tuple #[.int k a, .bool b]) = Ending.returned (.tuple #[.int k c, .bool d]) := by rw [h, h']
def TracePost (l : Int) (w : World) (e : Ending) (w' : World) : Prop := (e = .returned (.tuple #[.int .i64 (if l < 0 then 0 else l), .bool (decide (0 ≤ l))])) ∧ ∃ q, w' = w.drewN q
set_option maxRecDepth 100000 in
set_option maxHeartbeats 1000000 in
theorem trace94_any (w : World) (v u : Value) (g : Nat) (t : Tb) (r : Nat) (ws : List Int) (ht : Tab w v t) (hu : IntsAt w u ws) (hg : TGood g t) (hl : LetsOk g ws) (hr : r < t.length) :
    Calls Try.prog 94 #[v, .int .i64 (r : Int), u] w (TracePost (leads t r ws) w) := by
  obtain ⟨A, c, rfl, h1, h2, h3⟩ := ht.open_
  obtain ⟨Au, cu, rfl, hu1, hu2, hu3⟩ := hu.open_
  obtain ⟨bt, ot, rfl, h4⟩ := h3 (by omega)
  have HT := Lib.hid h4
  have HU := Lib.hid hu3
  have HG := Lib.hid hg
  have HL := Lib.hid hl
  have hrI : (r : Int) < (t.length : Int) := by omega
  have hr0 : (0 : Int) ≤ (r : Int) := Int.natCast_nonneg _
  have HBD := Lib.hid (fun k hk => leadTo_bd hg hl (r := (r : Int)) (by omega) k hk)
  have hn2 := hg.n2
  have hg16 := hg.g16
  clear ht hu h3 h4 hu3 hg hl
  go_enter Try.func94, Try.ntmps94
  go_wp2_with fail
  go_loopw [1, 12] (fun f i wr => ∃ k s : Nat, i = .int .i64 k ∧ k ≤ ws.length ∧ f = .int .i64 (s : Int) ∧ s < t.length ∧ Hid ((s : Int) = leadTo t r ws k) ∧ ∃ q, wr = w.drewN q) (fun _ i _ => ws.length - (intOf i).toNat)
  case atStart => exact ⟨0, r, rfl, by omega, rfl, hr, Lib.hid rfl, 0, rfl⟩
  case round =>
    obtain ⟨k, s, rfl, hk, rfl, hs, HS, q, rfl⟩ := hrel
    have hk0 : (0 : Int) ≤ (k : Int) := Int.natCast_nonneg _
    have hs0 : (0 : Int) ≤ (s : Int) := Int.natCast_nonneg _
    by_cases hlt : k < ws.length
    · have hlt' : (k : Int) < (ws.length : Int) := by omega
      have hsI : (s : Int) < (t.length : Int) := by omega
      obtain ⟨bw, ow, rfl, hcc⟩ := HU.out (by omega)
      have hck := hcc k hlt
      obtain ⟨u, hu, hI⟩ := HT.out s hs
      have hI2 : IntsAt w u (t.row s) := hI
      obtain ⟨Ar, cr, rfl, hr1, hr2, hr3⟩ := hI2.open_
      have hx := HL.out.at_ hlt
      have hcol := col_lt hx
      have hrl := HG.out.len s hs
      obtain ⟨br, or', rfl, hrc⟩ := hr3 (by omega)
      have hcx := hrc (col (ws.getD k 0)) (by omega)
      have hbd := HG.out.bd s hs _ hcol
      have HNX : Hid (leadTo t r ws (k + 1) = (t.row s).getD (col (ws.getD k 0)) 0) := Lib.hid (by
        rw [leadTo_succ, ← HS.out, if_neg (by omega), Int.toNat_natCast]; rfl)
      have HNEG : Hid ((t.row s).getD (col (ws.getD k 0)) 0 < 0 → leads t r ws < 0) := Lib.hid fun h => leads_neg (k := k + 1) (by omega) (by rw [HNX.out]; exact h)
      have HCO : Hid (∀ n, Calls Try.prog 133 #[.int .i64 (ws.getD k 0)] (w.drewN n) fun e w' => e = .returned (.int .i64 (col (ws.getD k 0) : Nat)) ∧ w.drewN n = w') := Lib.hid fun n => col133_any _ _ (by omega)
      have hc0 : (0 : Int) ≤ ((col (ws.getD k 0) : Nat) : Int) := Int.natCast_nonneg _
      have hc1 : ((col (ws.getD k 0) : Nat) : Int) < ((t.row s).length : Int) := by omega
      have hbd' : -1 ≤ (t.row s).getD (col (ws.getD k 0)) 0 ∧ (t.row s).getD (col (ws.getD k 0)) 0 < t.length := hbd
      clear hcc hI hI2 hr3 hrc hx hcol hrl hbd
      generalize (t.row s).getD (col (ws.getD k 0)) 0 = y at *
      generalize col (ws.getD k 0) = cx at *
      generalize ws.getD k 0 = x at *
      obtain ⟨hy1, hy2⟩ := hbd'
      by_cases hy : y < 0
      · have HLN := Lib.hid (HNEG.out hy)
        go_wp2_with fail
        go_quiet ((go_at_call 133; exact quiet_add_left (HCO.out _)))
        go_wp2_with fail
        go_ret2
        exact ⟨ret_ib (by rw [if_pos HLN.out]) (by have := HLN.out; simp; omega), (by first | exact ⟨_, rfl⟩ | exact ex_drewN)⟩
      · obtain ⟨s', rfl⟩ : ∃ s' : Nat, y = s' := ⟨y.toNat, by omega⟩
        go_wp2_with fail
        go_quiet ((go_at_call 133; exact quiet_add_left (HCO.out _)))
        go_wp2_with fail
        go_roundw
        case rel => exact ⟨k + 1, s', by go_num, by omega, rfl, by omega, Lib.hid HNX.out.symm, (by first | exact ⟨_, rfl⟩ | exact ex_drewN)⟩
        case measure => simp [intOf]; omega
    · obtain rfl : k = ws.length := by omega
      have HZ : Hid ((s : Int) = leads t r ws) := Lib.hid HS.out
      go_wp2_with fail
      go_ret2
      exact ⟨ret_ib (by rw [← HZ.out, if_neg (by omega)]) (by rw [← HZ.out]; simp), (by first | exact ⟨_, rfl⟩ | exact ex_drewN)⟩
theorem pred124 (g B : Nat) (w : World) (hg : g ≤ 16) (hc : w.cell? ⟨B, 0, none⟩ = some (.int .i64 (g : Int))) :
    PredW 124 #[.pointer (some ⟨B, 0, none⟩)] (fun x => -9223372036854775808 ≤ x ∧ x ≤ 9223372036854775807) (letBad g) w := fun x q hx => by
  have hcq : (w.drewN q).cell? ⟨B, 0, none⟩ = some (.int .i64 (g : Int)) := hc
  show Calls Try.prog 124 #[.int .i64 x, .pointer (some ⟨B, 0, none⟩)] (w.drewN q) _
  have h0 : letBad g x = (decide (x = 0) || decide (x < -(g : Int)) || decide ((g : Int) < x)) := rfl
  have H0 := Lib.hid h0
  clear h0
  generalize hW : w.drewN q = W at *
  have HW := Lib.hid hW
  clear hW
  have hg0 : (0 : Int) ≤ (g : Int) := Int.natCast_nonneg _
  have hg1 : (g : Int) ≤ 16 := by omega
  by_cases h1 : x = 0
  · subst h1
    go_enter Try.func124, Try.ntmps124
    go_wp2_with fail
    go_ret
    exact ⟨ret_bool (by rw [H0.out]; simp), q, HW.out.symm⟩
  · have d1 : (x == 0) = false := by simpa using h1
    by_cases h2 : x < -(g : Int)
    · go_enter Try.func124, Try.ntmps124
      go_wp2_with fail
      go_ret
      exact ⟨ret_bool (by rw [H0.out]; simp [h2]), q, HW.out.symm⟩
    · by_cases h3 : (g : Int) < x
      · go_enter Try.func124, Try.ntmps124
        go_wp2_with fail
        go_ret
        exact ⟨ret_bool (by rw [H0.out]; simp [h3]), q, HW.out.symm⟩
      · go_enter Try.func124, Try.ntmps124
        go_wp2_with fail
        go_ret
        exact ⟨ret_bool (by rw [H0.out]; simp [h1, h2, h3]), q, HW.out.symm⟩
theorem eg124 : ∀ args w, (callFunc 124 args).run Try.prog w = .ok (.enter 124 args) w := enters_of Try.func124 (by kernel_rfl) rfl
set_option maxRecDepth 100000 in
theorem fine83_any (w : World) (g : Nat) (u : Value) (ws : List Int) (hg : g ≤ 16) (hu : IntsAt w u ws) : Calls Try.prog 83 #[.int .i64 (g : Int), u] w fun e w' => e = .returned (.bool (!(ws.any (letBad g)))) ∧ Below w.heap.size w w' := by
  have hb0 : Below w.heap.size w (w.alloc (.cells #[.int .i64 (g : Int)] 3)) := (Below.refl _ _).alloc (Nat.le_refl _) _
  have hnew0 := heap_alloc_new w (.cells #[.int .i64 (g : Int)] 3)
  have HC := Lib.hid (has74_any 124 _ _ _ (w.alloc (.cells #[.int .i64 (g : Int)] 3)) eg124 (pred124 g w.heap.size _ hg (cell_of1 hnew0).1) u ws (kept_ints.below hu hb0) (fun x hx => hu.2 x hx))
  have HB := Lib.hid hb0
  obtain ⟨A, c, rfl, -, -, -⟩ := hu.open_
  clear hu hb0 hnew0
  generalize ws.any (letBad g) = b at *
  go_enter Try.func83, Try.ntmps83
  go_wp2_with (go_at_call 74; (refine HC.out.mono ?_); rintro e w2 ⟨rfl, q, rfl⟩)
  go_ret
  exact ⟨rfl, below_drewN HB.out _⟩
end Go.Proofs
namespace Go.Proofs
open Go.RowKit Go.Shelf Go.Proofs.Ct Go.Maps
/-- function g, bound to lb, answers p at the rows of xs -/
def PredB (g : Nat) (lb : Array Value) (p : List Int → Bool) (w : World) (xs : List (List Int)) : Prop :=
  ∀ (W : World) (u : Value) (k : Nat), Below w.heap.size w W → k < xs.length → IntsAt W u (xs.getD k []) → Calls Try.prog g (#[u] ++ lb) W fun e w' => e = .returned (.bool (p (xs.getD k []))) ∧ Below W.heap.size W w'
theorem any_false_ofR {p : List Int → Bool} {xs : List (List Int)} (h : ∀ j, j < xs.length → p (xs.getD j []) = false) : xs.any p = false := by
  rw [List.any_eq_false]
  intro x hx
  obtain ⟨c, hc, rfl⟩ := List.mem_iff_getElem.1 hx
  have := h c hc
  rw [List.getD_eq_getElem?_getD, List.getElem?_eq_getElem hc] at this
  simpa using this
theorem any_true_ofR {p : List Int → Bool} {xs : List (List Int)} {k : Nat} (hk : k < xs.length) (h : p (xs.getD k []) = true) : xs.any p = true := by
  rw [List.any_eq_true]
  rw [List.getD_eq_getElem?_getD, List.getElem?_eq_getElem hk] at h
  exact ⟨_, List.getElem_mem hk, h⟩
section
variable (g : Nat) (lb : Array Value) (p : List Int → Bool) (w : World) (eg : ∀ args w, (callFunc g args).run Try.prog w = .ok (.enter g args) w) (v : Value) (xs : List (List Int)) (h : Tab w v xs) (hp : PredB g lb p w xs)
include eg hp h
set_option maxRecDepth 100000 in
set_option maxHeartbeats 400000 in
theorem idx139_any : Calls Try.prog 139 #[v, .func (.func g) #[] lb] w fun e w' => IdxSaid (xs.any p) e ∧ Below w.heap.size w w' := by
  obtain ⟨A, c, rfl, hc1, hc2, hc⟩ := h.open_
  have HC := Lib.hid hc
  have HP := Lib.hid hp
  clear hc hp h
  go_enter Try.func139, Try.ntmps139
  go_wp2_with fail
  go_loopw [5, 8] (fun _ i wr => ∃ k : Nat, k ≤ xs.length ∧ i = .int .i64 k ∧ Hid (∀ j, j < k → p (xs.getD j []) = false) ∧ Hid (Below w.heap.size w wr)) (fun _ i _ => xs.length - (intOf i).toNat)
  case atStart => exact ⟨0, Nat.zero_le _, rfl, Lib.hid fun j hj => absurd hj (by omega), Lib.hid (Below.refl _ _)⟩
  case round =>
    obtain ⟨k, hk, rfl, HZ, HB⟩ := hrel
    have hk0 : (0 : Int) ≤ (k : Int) := Int.natCast_nonneg _
    by_cases hlt : k < xs.length
    · have hlt' : (k : Int) < (xs.length : Int) := by omega
      obtain ⟨b, o, rfl, hcc⟩ := HC.out (by omega)
      obtain ⟨u, hu, hI⟩ := hcc k hlt
      have hu' := (HB.out.cell (p := ⟨b, o + k, none⟩) (World.block_lt_of_cell? w _ hu)).trans hu
      have hI2 := hI.below HB.out
      have hcall := HP.out wr u k HB.out hlt hI2
      obtain ⟨Ar, cr, rfl, -, -, -⟩ := hI2.open_
      clear hcc hu hI hI2
      have HA := Lib.hid (any_true_ofR (p := p) hlt)
      have HN : Hid (p (xs.getD k []) = false → ∀ j, j < k + 1 → p (xs.getD j []) = false) := Lib.hid fun h => all_succ HZ.out h
      generalize hpx : p (xs.getD k []) = pb at *
      have HPX := Lib.hid hpx
      clear hpx
      generalize xs.getD k [] = x at *
      have HCALL := Lib.hid hcall
      clear hcall
      cases pb with
      | true =>
        have HA2 := Lib.hid (HA.out rfl)
        go_wp2_with (go_at_fn g; (refine HCALL.out.mono ?_); rintro e w' ⟨rfl, hb⟩; have HB2 := Lib.hid (HB.out.trans (hb.mono HB.out.size)); clear hb)
        go_ret
        exact ⟨⟨k, rfl, by rw [HA2.out]; simp⟩, HB2.out⟩
      | false =>
        have HN2 := Lib.hid (HN.out rfl)
        go_wp2_with (go_at_fn g; (refine HCALL.out.mono ?_); rintro e w' ⟨rfl, hb⟩; have HB2 := Lib.hid (HB.out.trans (hb.mono HB.out.size)); clear hb)
        go_roundw
        case rel => exact ⟨k + 1, by omega, by go_num, HN2, HB2⟩
        case measure => simp [intOf]; omega
    · obtain rfl : k = xs.length := by omega
      go_wp2_with fail
      go_ret
      exact ⟨⟨-1, rfl, by rw [any_false_ofR HZ.out]; rfl⟩, HB.out⟩
theorem has105_any : Calls Try.prog 105 #[v, .func (.func g) #[] lb] w fun e w' => e = .returned (.bool (xs.any p)) ∧ Below w.heap.size w w' := by
  have hcon := Lib.hid (idx139_any g lb p w eg v xs h hp)
  clear hp h
  go_enter Try.func105, Try.ntmps105
  go_wp2_with (go_at_call 139; (refine hcon.out.mono ?_); rintro e w' ⟨⟨r, rfl, hr⟩, hb⟩; have HR := Lib.hid hr; have HB := Lib.hid hb; clear hr hb)
  go_ret
  exact ⟨ret_bool HR.out, HB.out⟩
end
section
variable (g : Nat) (lb : Array Value) (p : List Int → Bool) (w : World) (eg : ∀ args w, (callFunc g args).run Try.prog w = .ok (.enter g args) w) (v : Value) (xs : List (List Int)) (h : Tab w v xs) (hp : PredB g lb p w xs)
include eg hp h
set_option maxRecDepth 100000 in
set_option maxHeartbeats 400000 in
theorem idx123_any : Calls Try.prog 123 #[v, .func (.func g) #[] lb] w fun e w' => IdxSaid (xs.any p) e ∧ Below w.heap.size w w' := by
  obtain ⟨A, c, rfl, hc1, hc2, hc⟩ := h.open_
  have HC := Lib.hid hc
  have HP := Lib.hid hp
  clear hc hp h
  go_enter Try.func123, Try.ntmps123
  go_wp2_with fail
  go_loopw [5, 8] (fun _ i wr => ∃ k : Nat, k ≤ xs.length ∧ i = .int .i64 k ∧ Hid (∀ j, j < k → p (xs.getD j []) = false) ∧ Hid (Below w.heap.size w wr)) (fun _ i _ => xs.length - (intOf i).toNat)
  case atStart => exact ⟨0, Nat.zero_le _, rfl, Lib.hid fun j hj => absurd hj (by omega), Lib.hid (Below.refl _ _)⟩
  case round =>
    obtain ⟨k, hk, rfl, HZ, HB⟩ := hrel
    have hk0 : (0 : Int) ≤ (k : Int) := Int.natCast_nonneg _
    by_cases hlt : k < xs.length
    · have hlt' : (k : Int) < (xs.length : Int) := by omega
      obtain ⟨b, o, rfl, hcc⟩ := HC.out (by omega)
      obtain ⟨u, hu, hI⟩ := hcc k hlt
      have hu' := (HB.out.cell (p := ⟨b, o + k, none⟩) (World.block_lt_of_cell? w _ hu)).trans hu
      have hI2 := hI.below HB.out
      have hcall := HP.out wr u k HB.out hlt hI2
      obtain ⟨Ar, cr, rfl, -, -, -⟩ := hI2.open_
      clear hcc hu hI hI2
      have HA := Lib.hid (any_true_ofR (p := p) hlt)
      have HN : Hid (p (xs.getD k []) = false → ∀ j, j < k + 1 → p (xs.getD j []) = false) := Lib.hid fun h => all_succ HZ.out h
      generalize hpx : p (xs.getD k []) = pb at *
      have HPX := Lib.hid hpx
      clear hpx
      generalize xs.getD k [] = x at *
      have HCALL := Lib.hid hcall
      clear hcall
      cases pb with
      | true =>
        have HA2 := Lib.hid (HA.out rfl)
        go_wp2_with (go_at_fn g; (refine HCALL.out.mono ?_); rintro e w' ⟨rfl, hb⟩; have HB2 := Lib.hid (HB.out.trans (hb.mono HB.out.size)); clear hb)
        go_ret
        exact ⟨⟨k, rfl, by rw [HA2.out]; simp⟩, HB2.out⟩
      | false =>
        have HN2 := Lib.hid (HN.out rfl)
        go_wp2_with (go_at_fn g; (refine HCALL.out.mono ?_); rintro e w' ⟨rfl, hb⟩; have HB2 := Lib.hid (HB.out.trans (hb.mono HB.out.size)); clear hb)
        go_roundw
        case rel => exact ⟨k + 1, by omega, by go_num, HN2, HB2⟩
        case measure => simp [intOf]; omega
    · obtain rfl : k = xs.length := by omega
      go_wp2_with fail
      go_ret
      exact ⟨⟨-1, rfl, by rw [any_false_ofR HZ.out]; rfl⟩, HB.out⟩
theorem has81_any : Calls Try.prog 81 #[v, .func (.func g) #[] lb] w fun e w' => e = .returned (.bool (xs.any p)) ∧ Below w.heap.size w w' := by
  have hcon := Lib.hid (idx123_any g lb p w eg v xs h hp)
  clear hp h
  go_enter Try.func81, Try.ntmps81
  go_wp2_with (go_at_call 123; (refine hcon.out.mono ?_); rintro e w' ⟨⟨r, rfl, hr⟩, hb⟩; have HR := Lib.hid hr; have HB := Lib.hid hb; clear hr hb)
  go_ret
  exact ⟨ret_bool HR.out, HB.out⟩
end
set_option maxRecDepth 100000 in
set_option maxHeartbeats 400000 in
theorem idx140_any (w : World) (v : Value) (xs : List Int) (z : Int) (h : IntsAt w v xs) : Calls Try.prog 140 #[v, .int .i64 z] w fun e w' => IdxSaid (xs.contains z) e ∧ w' = w := by
  obtain ⟨A, c, rfl, hc1, hc2, hc⟩ := h.open_
  have HC := Lib.hid hc
  clear hc h
  go_enter Try.func140, Try.ntmps140
  go_wp2_with fail
  go_loopw [5, 8] (fun _ i wr => ∃ k : Nat, k ≤ xs.length ∧ i = .int .i64 k ∧ Hid (∀ j, j < k → xs.getD j 0 ≠ z) ∧ wr = w) (fun _ i _ => xs.length - (intOf i).toNat)
  case atStart => exact ⟨0, Nat.zero_le _, rfl, Lib.hid fun j hj => absurd hj (by omega), rfl⟩
  case round =>
    obtain ⟨k, hk, rfl, HZ, rfl⟩ := hrel
    have hk0 : (0 : Int) ≤ (k : Int) := Int.natCast_nonneg _
    by_cases hlt : k < xs.length
    · have hlt' : (k : Int) < (xs.length : Int) := by omega
      obtain ⟨b, o, rfl, hcc⟩ := HC.out (by omega)
      have hck := hcc k hlt
      have HT : Hid (xs.getD k 0 = z → xs.contains z = true) := Lib.hid fun h => by
        rw [List.contains_iff_mem, ← h, List.getD_eq_getElem?_getD, List.getElem?_eq_getElem hlt]
        exact List.getElem_mem hlt
      have HN : Hid (xs.getD k 0 ≠ z → ∀ j, j < k + 1 → xs.getD j 0 ≠ z) := Lib.hid fun h => all_succ HZ.out h
      clear hcc
      generalize xs.getD k 0 = x at *
      by_cases hx : z = x
      · have d1 : (z == x) = true := by simpa using hx
        have HT2 := Lib.hid (HT.out hx.symm)
        clear hx
        go_wp2_with fail
        go_ret
        exact ⟨⟨k, rfl, by rw [HT2.out]; simp⟩, (by first | trivial | rfl)⟩
      · have d1 : (z == x) = false := by simpa using hx
        have HN2 := Lib.hid (HN.out fun h => hx h.symm)
        clear hx
        go_wp2_with fail
        go_roundw
        case rel => exact ⟨k + 1, by omega, by go_num, HN2, (by first | trivial | rfl)⟩
        case measure => simp [intOf]; omega
    · obtain rfl : k = xs.length := by omega
      have HF : Hid (xs.contains z = false) := Lib.hid (by
        rw [Bool.eq_false_iff]
        intro h
        rw [List.contains_iff_mem] at h
        obtain ⟨i, hi, he⟩ := List.mem_iff_getElem.1 h
        exact HZ.out i hi (by rw [List.getD_eq_getElem?_getD, List.getElem?_eq_getElem hi]; exact he))
      go_wp2_with fail
      go_ret
      exact ⟨⟨-1, rfl, by rw [HF.out]; rfl⟩, (by first | trivial | rfl)⟩
theorem has107_any (w : World) (v : Value) (xs : List Int) (z : Int) (h : IntsAt w v xs) : Calls Try.prog 107 #[v, .int .i64 z] w fun e w' => e = .returned (.bool (xs.contains z)) ∧ w' = w := by
  have hcon := Lib.hid (idx140_any w v xs z h)
  clear h
  go_enter Try.func107, Try.ntmps107
  go_wp2_with (go_at_call 140; (refine hcon.out.mono ?_); rintro e w' ⟨⟨r, rfl, hr⟩, rfl⟩; have HR := Lib.hid hr; clear hr)
  go_ret
  exact ⟨ret_bool HR.out, (by first | trivial | rfl)⟩
theorem neg1_106 (w : World) (v : Value) (xs : List Int) (h : IntsAt w v xs) : Calls Try.prog 106 #[v] w fun e w' => e = .returned (.bool (xs.contains (-1))) ∧ Below w.heap.size w w' := by
  have hcon := Lib.hid (has107_any w v xs (-1) h)
  clear h
  generalize xs.contains (-1) = b at *
  go_enter Try.func106, Try.ntmps106
  go_wp2_with (go_at_call 107; (refine hcon.out.mono ?_); rintro e w' ⟨rfl, rfl⟩)
  go_ret
  exact ⟨rfl, Below.refl _ _⟩
theorem eg106 : ∀ args w, (callFunc 106 args).run Try.prog w = .ok (.enter 106 args) w := enters_of Try.func106 (by kernel_rfl) rfl
theorem complete45_any (w : World) (v : Value) (t : Tb) (ht : Tab w v t) : Calls Try.prog 45 #[v] w fun e w' => e = .returned (.bool (complete t)) ∧ Below w.heap.size w w' := by
  have HC := Lib.hid (has105_any 106 #[] (fun row => row.contains (-1)) w eg106 v t ht fun W u k _ _ hI => neg1_106 W u _ hI)
  obtain ⟨A, c, rfl⟩ := Tab.form ht
  have HE : Hid ((!(t.any fun row => row.contains (-1))) = complete t) := Lib.hid rfl
  clear ht
  generalize (t.any fun row => row.contains (-1)) = b at *
  go_enter Try.func45, Try.ntmps45
  go_wp2_with (go_at_call 105; (refine HC.out.mono ?_); rintro e w' ⟨rfl, hb⟩; have HB := Lib.hid hb; clear hb)
  go_ret
  exact ⟨ret_bool HE.out, HB.out⟩
end Go.Proofs
namespace Go.Proofs
open Go.RowKit Go.Shelf Go.Proofs.Ct Go.Maps
theorem take_snoc {α : Type} {d : α} {l : List α} {k : Nat} (h : k < l.length) : l.take (k + 1) = l.take k ++ [l.getD k d] := by
  rw [List.take_add_one, List.getD_eq_getElem?_getD, List.getElem?_eq_getElem h]; rfl
set_option maxRecDepth 100000 in
set_option maxHeartbeats 1000000 in
theorem plain52_any (w : World) (v : Value) (l : List W) (ht : Tab w v l) (hl : l.length ≤ 1000000) : Calls Try.prog 52 #[v] w fun e w' => (∃ u, e = .returned u ∧ Tab w' u l) ∧ Below w.heap.size w w' := by
  obtain ⟨A, c, rfl, h1, h2, h3⟩ := ht.open_
  have HL := Lib.hid h3
  have h0 : OwnT 24 w.heap.size (fun k => k < w.heap.size) w (.slice none 0 0) [] := ⟨[], World.ownsRow_nil _ _ _ _, RowsF.nil _ _⟩
  have H0 := Lib.hid h0
  clear ht h3 h0
  go_enter Try.func52, Try.ntmps52
  go_wp2_with fail
  go_loopw [3, 4] (fun so i wr => ∃ k : Nat, i = .int .i64 k ∧ k ≤ l.length ∧ ∃ A c, so = .slice A k c ∧ Hid (OwnT 24 w.heap.size (fun k => k < w.heap.size) wr so (l.take k)) ∧ Hid (Below w.heap.size w wr)) (fun _ i _ => l.length - (intOf i).toNat)
  case atStart => exact ⟨0, rfl, by omega, none, 0, rfl, H0, Lib.hid (Below.refl _ _)⟩
  case round =>
    clear H0
    obtain ⟨k, rfl, hk, A2, c2, rfl, HO, HB⟩ := hrel
    have hk0 : (0 : Int) ≤ (k : Int) := Int.natCast_nonneg _
    by_cases hlt : k < l.length
    · have hlt' : (k : Int) < (l.length : Int) := by omega
      obtain ⟨b, o, rfl, hcc⟩ := HL.out (by omega)
      obtain ⟨u, hu0, hI⟩ := hcc k hlt
      have hu := (HB.out.cell (p := ⟨b, o + k, none⟩) (World.block_lt_of_cell? w _ hu0)).trans hu0
      have hI2 : IntsAt w u (l.getD k []) := hI
      obtain ⟨Ar, cr, rfl, -, -, -⟩ := hI2.open_
      have hF := (IntsF.of_at hI2).keep (Ag.below HB.out fun _ h => h)
      have hFs : ∀ j, j < w.heap.size → j < (wr.heap.size) ∧ (Value.slice A2 k c2).ownBlock ≠ some j := fun j hj => ⟨Nat.lt_of_lt_of_le hj HB.out.size, fun e => by
        obtain ⟨h1, -⟩ := OwnT.block HO.out j e
        omega⟩
      obtain ⟨A', c', w', hr, ho, hg, hw⟩ := push_row (ty := 23) Try.underlying23 info24p wr w.heap.size (fun k => k < w.heap.size) _ (l.take k) HO.out Ar (l.getD k []).length cr (l.getD k []) hF hFs (by rw [List.length_take]; omega) HB.out.size
      have hlk : (l.take k).length = k := by rw [List.length_take]; omega
      rw [hlk] at hr ho
      rw [← take_snoc hlt] at ho
      have HR := Lib.hid hr
      have HO' := Lib.hid ho
      have HB' : Hid (Below w.heap.size w w') := Lib.hid (HB.out.grown hg HB.out.size fun r hr => (OwnT.block HO.out r hr).1)
      clear hr ho hw hcc hI hI2 hF hFs hu0 hg
      generalize (l.getD k []).length = n at *
      go_wp2_with ((with_reducible refine wpList_sel 17 ?_); refine wpList_val rfl (r_app (.tmp 11) (.tmp 16) 23 rfl rfl rfl HR.out) ?_)
      go_roundw
      case rel => exact ⟨k + 1, by go_num, by omega, _, _, rfl, HO', HB'⟩
      case measure => simp [intOf]; omega
    · obtain rfl : k = l.length := by omega
      have ho := HO.out
      rw [List.take_of_length_le (Nat.le_refl _)] at ho
      have HT := Lib.hid ho.tab
      clear ho
      go_wp2_with fail
      go_ret
      exact ⟨⟨_, rfl, HT.out⟩, HB.out⟩
/-- the images of a generator at the first k cosets; of the first generators -/
def colTo (t : Tb) (c k : Nat) : List Int := (List.range k).map fun r => t.at r (2 * c)
theorem colTo_succ (t : Tb) (c k : Nat) : colTo t c (k + 1) = colTo t c k ++ [t.at k (2 * c)] := by simp [colTo, List.range_succ]
theorem length_colTo (t : Tb) (c k : Nat) : (colTo t c k).length = k := by simp [colTo]
def imgTo (t : Tb) (m : Nat) : Tb := (List.range m).map fun c => colTo t c t.length
def imgE (g : Int) (t : Tb) : Tb × Int :=
  if (check g t).1 ≠ 0 then ([], (check g t).1) else
  if complete t = false then ([], 13) else (imgTo t g.toNat, 0)
def ImgPost (g : Int) (t : Tb) (w : World) (e : Ending) (w' : World) : Prop := (∃ u, e = .returned (.tuple #[u, .int .i64 (imgE g t).2]) ∧ Tab w' u (imgE g t).1) ∧ Below w.heap.size w w'
theorem fits_colTo {g : Nat} {t : Tb} (hg : TGood g t) {c k : Nat} (hc : c < g) (hk : k ≤ t.length) : Fits (colTo t c k) := fun x hx => by
  obtain ⟨r, hr, rfl⟩ := List.mem_map.1 hx
  have := hg.bd r (by have := List.mem_range.1 hr; omega) (2 * c) (by omega)
  have := hg.n2
  omega
end Go.Proofs
namespace Go.Proofs
open Go.RowKit Go.Shelf Go.Proofs.Ct Go.Maps
theorem turn59_any (w : World) (x : Int) (n : Nat) (hn : 1 ≤ n ∧ n ≤ 1000000) : Calls Try.prog 59 #[.int .i64 x, .int .i64 (n : Int)] w fun e w' => e = .returned (.int .i64 (x % (n : Int))) ∧ w' = w := by
  have hk0 : (0 : Int) < (n : Int) := by omega
  have hk1 : (n : Int) ≤ 1000000 := by omega
  have h3 : x.tmod n < n := Int.tmod_lt_of_pos _ hk0
  have h4 : -(n : Int) < x.tmod n := by
    have := Int.lt_tmod_of_pos x hk0
    omega
  have h5 : (x.tmod n + n).tmod n = x % n := by
    rw [Int.tmod_eq_emod_of_nonneg (by omega), Int.add_emod_right, Int.tmod_eq_emod]
    split <;> simp
  have H5 := Lib.hid h5
  clear h5
  generalize hm : x.tmod (n : Int) = m at *
  have hne : (n : Int) ≠ 0 := by omega
  have h6 : (m + n).tmod n < n := Int.tmod_lt_of_pos _ hk0
  have h7 : 0 ≤ (m + n).tmod (n : Int) := by rw [H5.out]; exact Int.emod_nonneg _ hne
  generalize hz : (m + (n : Int)).tmod (n : Int) = z at *
  go_enter Try.func59, Try.ntmps59
  go_wp2_with fail
  go_ret
  exact ⟨ret_int (by first | exact H5.out | (rw [← H5.out])), (by first | trivial | rfl)⟩
theorem letter61_any (w : World) (c : Nat) (hc : c ≤ 1000000) : Calls Try.prog 61 #[.int .i64 (c : Int)] w fun e w' => e = .returned (.int .i64 (letter c)) ∧ w' = w := by
  have h0 : (0 : Int) ≤ (c : Int) := Int.natCast_nonneg _
  have h1 : (c : Int) ≤ 1000000 := by omega
  have hm : (c : Int).tmod 2 = (c : Int) % 2 := Int.tmod_eq_emod_of_nonneg h0
  have hd : (c : Int).tdiv 2 = (c : Int) / 2 := Int.tdiv_eq_ediv_of_nonneg h0
  have HL : Hid (letter c = if (c : Int) % 2 = 0 then (c : Int) / 2 + 1 else -((c : Int) / 2 + 1)) := Lib.hid (by
    unfold letter
    split <;> split <;> omega)
  generalize hy : (c : Int) / 2 = y at *
  have hy0 : 0 ≤ y := by omega
  have hy1 : y ≤ 1000000 := by omega
  by_cases h : (c : Int) % 2 = 0
  · have d1 : ((c : Int) % 2 == 0) = true := by simpa using h
    rw [if_pos h] at HL
    generalize (c : Int) % 2 = m at *
    generalize letter c = l at *
    clear h
    go_enter Try.func61, Try.ntmps61
    go_wp2_with fail
    go_ret
    exact ⟨ret_int (by rw [HL.out]), (by first | trivial | rfl)⟩
  · have d1 : ((c : Int) % 2 == 0) = false := by simpa using h
    rw [if_neg h] at HL
    generalize (c : Int) % 2 = m at *
    generalize letter c = l at *
    clear h
    go_enter Try.func61, Try.ntmps61
    go_wp2_with fail
    go_ret
    exact ⟨ret_int (by rw [HL.out]), (by first | trivial | rfl)⟩
/-- the word that numbers select -/
def wordOf (g : Nat) (l : List Int) : List Int := l.map fun x => letter (x % ((2 * g : Nat) : Int)).toNat
theorem length_wordOf (g : Nat) (l : List Int) : (wordOf g l).length = l.length := by simp [wordOf]
theorem wordOf_take {g : Nat} {l : List Int} {k : Nat} (h : k < l.length) : wordOf g (l.take (k + 1)) = wordOf g (l.take k) ++ [letter (l.getD k 0 % ((2 * g : Nat) : Int)).toNat] := by
  rw [take_snoc (d := 0) h]
  simp [wordOf]
def WordPost (x : List Int) (w : World) (e : Ending) (w' : World) : Prop := ∃ A c, e = .returned (.slice A x.length c) ∧ OwnI w.heap.size w' (.slice A x.length c) x ∧ Below w.heap.size w w'
set_option maxRecDepth 100000 in
set_option maxHeartbeats 1000000 in
theorem wordOf39_any (w : World) (v : Value) (l : List Int) (g : Nat) (h : IntsAt w v l) (hg : 1 ≤ g ∧ g ≤ 1000) (hl : l.length ≤ 1000000) : Calls Try.prog 39 #[v, .int .i64 (g : Int)] w (WordPost (wordOf g l) w) := by
  obtain ⟨A, c, rfl, h1, h2, h3⟩ := h.open_
  have HL := Lib.hid h3
  have HF := Lib.hid h.2
  have h0 : OwnI w.heap.size w (.slice none 0 0) [] := World.ownsRow_nil _ _ _ _
  have H0 := Lib.hid h0
  have hg0 : (0 : Int) ≤ (g : Int) := Int.natCast_nonneg _
  have hg1 : (g : Int) ≤ 1000 := by omega
  have hgg : 2 * (g : Int) = ((2 * g : Nat) : Int) := by omega
  have HGG := Lib.hid hgg
  clear h h3 h0 hgg
  unfold WordPost
  go_enter Try.func39, Try.ntmps39
  go_wp2_with fail
  go_loopw [5, 6] (fun so i wr => ∃ k : Nat, i = .int .i64 k ∧ k ≤ l.length ∧ ∃ A c, so = .slice A k c ∧ Hid (OwnI w.heap.size wr so (wordOf g (l.take k))) ∧ Hid (Below w.heap.size w wr)) (fun _ i _ => l.length - (intOf i).toNat)
  case atStart => exact ⟨0, rfl, by omega, none, 0, rfl, H0, Lib.hid (Below.refl _ _)⟩
  case round =>
    clear H0
    obtain ⟨k, rfl, hk, A2, c2, rfl, HO, HB⟩ := hrel
    have hk0 : (0 : Int) ≤ (k : Int) := Int.natCast_nonneg _
    by_cases hlt : k < l.length
    · have hlt' : (k : Int) < (l.length : Int) := by omega
      obtain ⟨b, o, rfl, hcc⟩ := HL.out (by omega)
      have hu0 := hcc k hlt
      have hu := (HB.out.cell (p := ⟨b, o + k, none⟩) (World.block_lt_of_cell? w _ hu0)).trans hu0
      have HW := Lib.hid (wordOf_take (g := g) hlt)
      have hm0 := Int.emod_nonneg (l.getD k 0) (show ((2 * g : Nat) : Int) ≠ 0 by omega)
      have hm1 := Int.emod_lt_of_pos (l.getD k 0) (show (0 : Int) < ((2 * g : Nat) : Int) by omega)
      have HT : Hid (∀ W, Calls Try.prog 59 #[.int .i64 (l.getD k 0), .int .i64 (2 * (g : Int))] W fun e w' => e = .returned (.int .i64 ((l.getD k 0 % ((2 * g : Nat) : Int)).toNat : Nat)) ∧ w' = W) := Lib.hid fun W => by
        rw [HGG.out, Int.toNat_of_nonneg hm0]
        exact turn59_any W _ (2 * g) (by omega)
      have HLT : Hid (∀ W, Calls Try.prog 61 #[.int .i64 ((l.getD k 0 % ((2 * g : Nat) : Int)).toNat : Nat)] W fun e w' => e = .returned (.int .i64 (letter (l.getD k 0 % ((2 * g : Nat) : Int)).toNat)) ∧ w' = W) := Lib.hid fun W => letter61_any W _ (by omega)
      have hol : (wordOf g (l.take k)).length = k := by rw [length_wordOf, List.length_take]; omega
      obtain ⟨A', c', w', hr, ho, hgr, hw⟩ := push_int 25 25 Try.underlying25 wr w.heap.size _ _ HO.out (letter (l.getD k 0 % ((2 * g : Nat) : Int)).toNat) (by omega) HB.out.size
      rw [hol] at hr ho
      rw [← HW.out] at ho
      have HR := Lib.hid hr
      have HO' := Lib.hid ho
      have HB' : Hid (Below w.heap.size w w') := Lib.hid (HB.out.grown hgr HB.out.size fun r hr => (owns_block HO.out r hr).1)
      clear hr ho hw hcc hu0 hgr HW hol hm0 hm1
      generalize (l.getD k 0 % ((2 * g : Nat) : Int)).toNat = n at *
      generalize letter n = z at *
      generalize l.getD k 0 = x at *
      go_wp2_with (first
        | (go_at_call 59; (refine (HT.out _).mono ?_); rintro e w1 ⟨rfl, rfl⟩)
        | (go_at_call 61; (refine (HLT.out _).mono ?_); rintro e w1 ⟨rfl, rfl⟩)
        | ((with_reducible refine wpList_sel 23 ?_); refine wpList_val rfl (r_app (.tmp 13) (.tmp 22) 25 rfl rfl rfl HR.out) ?_))
      go_roundw
      case rel => exact ⟨k + 1, by go_num, by omega, _, _, rfl, HO', HB'⟩
      case measure => simp [intOf]; omega
    · obtain rfl : k = l.length := by omega
      have ho := HO.out
      rw [List.take_of_length_le (Nat.le_refl _)] at ho
      have HE : Hid (∃ A c, Ending.returned (.slice A2 l.length c2) = .returned (.slice A (wordOf g l).length c) ∧ OwnI w.heap.size wr (.slice A (wordOf g l).length c) (wordOf g l) ∧ Below w.heap.size w wr) := Lib.hid ⟨A2, c2, by rw [length_wordOf], by rw [length_wordOf]; exact ho, HB.out⟩
      clear ho
      go_wp2_with fail
      go_ret
      exact HE.out
end Go.Proofs
namespace Go.Proofs
open Go.RowKit Go.Shelf Go.Proofs.Ct Go.Maps
theorem under24e : Try.prog.underlying 24 = some (.slice (Try.prog.elem 24)) := by kernel_rfl
theorem r_slice_lo {o : Oper} {a : Act} {w : World} (x y : Operand) (A : Option Addr) (n c k : Nat) (ho : o.op = .slice 24 x (some y) none none) (hx : a.eval x = .slice A n c) (hy : a.eval y = .int .i64 (k : Int)) (hk : k ≤ n) : (execOp a.eval o).run Try.prog w = .ok (.value (sliced A k n c 1)) w := by
  have hu := under24e
  have hs : (sizeOf (Try.prog.elem 24)).run Try.prog w = .ok 1 w := by kernel_rfl
  unfold execOp
  simp only [ho, hx, hy, Option.map_none, Option.map_some, Sem.run_bind, run_sliceAt_slice w 24 _ _ _ _ hu, run_slice_l w 24 A n c hu .i64 (k : Int) (by omega) (by omega)]
  simp [hs]
theorem r_slice_lohi {o : Oper} {a : Act} {w : World} (x y z : Operand) (A : Option Addr) (n c k h : Nat) (ho : o.op = .slice 24 x (some y) (some z) none) (hx : a.eval x = .slice A n c) (hy : a.eval y = .int .i64 (k : Int)) (hz : a.eval z = .int .i64 (h : Int)) (hk : k ≤ h) (hc : h ≤ c) : (execOp a.eval o).run Try.prog w = .ok (.value (sliced A k h c 1)) w := by
  have hu := under24e
  have hs : (sizeOf (Try.prog.elem 24)).run Try.prog w = .ok 1 w := by kernel_rfl
  unfold execOp
  simp only [ho, hx, hy, hz, Option.map_none, Option.map_some, Sem.run_bind, run_sliceAt_slice w 24 _ _ _ _ hu, run_slice_lh w 24 A n c hu .i64 .i64 (k : Int) (h : Int) (by omega) (by omega) (by omega)]
  simp [hs]
theorem ints_sliced {w : World} {A : Option Addr} {c k h : Nat} {l : List Int} (hI : IntsAt w (.slice A l.length c) l) (hk : k ≤ h) (hh : h ≤ l.length) : ∃ A', sliced A k h c 1 = .slice A' (h - k) (c - k) ∧ IntsAt w (.slice A' (h - k) (c - k)) ((l.take h).drop k) := by
  obtain ⟨⟨A0, n, cap, e, h1, h2, h3, h4⟩, hf⟩ := hI
  obtain ⟨rfl, rfl, rfl⟩ := Value.slice.inj e
  refine ⟨_, rfl, ⟨_, _, _, rfl, by simp [ints]; omega, by omega, by omega, fun hp => ?_⟩, fun y hy => hf y (List.mem_of_mem_take (List.mem_of_mem_drop hy))⟩
  obtain ⟨b, off, rfl, hr⟩ := h4 (by omega)
  refine ⟨b, off + k, ?_, fun j v hj => ?_⟩
  · rw [if_neg (by omega), Nat.mul_one]
    exact congrArg some (Addr.add_mid b off k)
  · have hj' : (ints l)[k + j]? = some v := by
      simp only [ints, List.getElem?_map, List.getElem?_drop, List.getElem?_take] at hj ⊢
      split at hj
      · exact hj
      · simp at hj
    have := hr (k + j) v hj'
    rwa [show off + k + j = off + (k + j) by omega]
/-- the words that numbers select -/
def wordsTo (g most : Nat) : Nat → List Int → List W
  | 0, _ => []
  | _ + 1, [] => []
  | f + 1, x :: l => wordOf g (l.take (min (x % ((most + 1 : Nat) : Int)).toNat l.length)) :: wordsTo g most f (l.drop (min (x % ((most + 1 : Nat) : Int)).toNat l.length))
def wordsOf (g most : Nat) (l : List Int) : List W := wordsTo g most l.length l
theorem wordsTo_nil (g most f : Nat) : wordsTo g most f [] = [] := by cases f <;> rfl
theorem fits_wordOf {g : Nat} (hg : 1 ≤ g ∧ g ≤ 400) (l : List Int) : Fits (wordOf g l) := fun x hx => by
  obtain ⟨y, -, rfl⟩ := List.mem_map.1 hx
  have h1 := Int.emod_nonneg y (show ((2 * g : Nat) : Int) ≠ 0 by omega)
  have h2 := Int.emod_lt_of_pos y (show (0 : Int) < ((2 * g : Nat) : Int) by omega)
  have := letter_bd (c := (y % ((2 * g : Nat) : Int)).toNat) (by omega)
  omega
theorem r_min2 {o : Oper} {a : Act} {w : World} (x y : Operand) (i j z : Int) (ho : o.op = .call { callee := .builtin .min, args := #[x, y], argTypes := #[3, 3] }) (hx : a.eval x = .int .i64 i) (hy : a.eval y = .int .i64 j) (hz : z = min i j) : (execOp a.eval o).run Try.prog w = .ok (.value (.int .i64 z)) w := by
  have e : (if j < i then j else i) = z := by rw [hz]; split <;> omega
  unfold execOp
  simp only [ho, resolve, invoke, builtin, Sem.run_bind, Sem.run_pure, Result.andThen_ok, List.map_toArray, List.map_cons, List.map_nil, hx, hy, run_min_int2, e]
end Go.Proofs
namespace Go.Proofs
open Go.RowKit Go.Shelf Go.Proofs.Ct Go.Maps
theorem r_slice_hi31 {o : Oper} {a : Act} {w : World} (x y : Operand) (A : Option Addr) (n c h : Nat) (ho : o.op = .slice 31 x none (some y) none) (hx : a.eval x = .slice A n c) (hy : a.eval y = .int .i64 (h : Int)) (hc : h ≤ c) : (execOp a.eval o).run Try.prog w = .ok (.value (sliced A 0 h c 1)) w := by
  have hu : Try.prog.underlying 31 = some (.slice (Try.prog.elem 31)) := by kernel_rfl
  have hs : (sizeOf (Try.prog.elem 31)).run Try.prog w = .ok 1 w := by kernel_rfl
  unfold execOp
  simp only [ho, hx, hy, Option.map_none, Option.map_some, Sem.run_bind, run_sliceAt_slice w 31 _ _ _ _ hu, run_slice_h w 31 A n c hu .i64 (h : Int) (by omega) (by omega)]
  simp [hs]
/-- the words of a law: the first m of those that numbers select -/
def lawWords (g m : Nat) (l : List Int) : List W := (wordsOf g 12 l).take m
theorem wordsTo_length (g most : Nat) : ∀ (f : Nat) (l : List Int), (wordsTo g most f l).length ≤ f
  | 0, _ => Nat.le_refl _
  | _ + 1, [] => Nat.zero_le _
  | f + 1, x :: l => by
    rw [wordsTo, List.length_cons]
    have := wordsTo_length g most f (l.drop (min (x % ((most + 1 : Nat) : Int)).toNat l.length))
    omega
end Go.Proofs
