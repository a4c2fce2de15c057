/- As Inv3; operations may be guarded; The walk of CollectConsistent; The law's vast, with what it says of the sizes; the walk of CollectChecks. -/
import Derived.Test.YtnhoiompdjabbaaA8
import Derived.Test.YtnhoiompdjabbaaA7
import Derived.Test.YtnhoiompdjabbaaA14
import Derived.Test.YtnhoiompdjabbaaA16
namespace Go.Proofs
open Go.RowKit Go.Proofs.Pc
section
variable {F : Fence} {n : Nat} {P : Program} {ops : Array Oper} {Q : Exit → Act → World → Prop}
theorem wpIn_region_g {id : Nat} {a0 : Act} {w : World} (hm : P.follows .mixedOrders = true) (dm : Nat → Nat) (N : Nat) (ht : Tailed1 ops N) (S : (Nat → Bool) → World → Prop) (Φ : Nat → Value → World → Prop) (G : Nat → World → World → Prop)
    (hdm : ∀ i j, i < N → j < N → dm i = dm j → i = j)
    (hΦ : ∀ i j v w w', i < N → j < N → i ≠ j → G i w w' → Φ j v w → Φ j v w')
    (hsz : ∀ i, i < N → dm i < a0.tmps.size) (h0 : S (fun _ => false) w.drew)
    (hop : ∀ (ls : Nat → Bool) (i : Nat) (o : Oper) (a : Act) (w : World), i < N → ops[i]? = some o → S ls w → ls i = false → SameM a0 dm N a → (∀ e ∈ o.after.toList, Region.binds .any e = true → Φ e.on (a.tmps.getD (dm e.on) undef) w) →
      wpOpIn F n P ops Q i (fun a' w' => ∃ v, a' = a.put (some (dm i)) v ∧ S (fun j => if i = j then true else ls j) w' ∧ G i w w' ∧ Φ i v w') a w)
    (hend : ∀ (ls : Nat → Bool) (a : Act) (w : World), S ls w → (∀ i, i < N → ls i = true) → SameM a0 dm N a → (∀ i, i < N → Φ i (a.tmps.getD (dm i) undef) w) →
      wpOpIn F n P ops Q N (fun a' w' => Q .normal a' w') a w) :
    (Code.region id ops true).wpIn F n P Q a0 w := by
  refine wpIn_region_any hm ?_
  have hsize := ht.size
  refine wpAnyIn_inv (fun listed a w => Closed ops listed ∧
      ((listed.getD N false = false ∧ S (fun j => listed.getD j false) w ∧ SameM a0 dm N a ∧ ∀ i, i < N → listed.getD i false = true → Φ i (a.tmps.getD (dm i) undef) w) ∨
       (listed.getD N false = true ∧ Q .normal a w))) ?_ ?_ ops.size _ a0 _ (by simp) ?_ ⟨fun i o ho h => ?_, .inl ⟨?_, by rw [show (fun j => (Array.replicate ops.size false).getD j false) = (fun _ => false) from funext fun j => by simp only [Array.getD_eq_getD_getElem?, Array.getElem?_replicate]; split <;> rfl]; exact h0, SameM.refl _ _ _, fun i hi h => ?_⟩⟩
  · rintro listed a w i hls ⟨hcl, hI⟩ hi
    obtain ⟨h1, h2, o, ho, hpre⟩ := ready_mem hi
    rw [getD_true_false (by omega)] at h2
    have hcl' : Closed ops (listed.setIfInBounds i true) := fun j oj hoj hl e he hb => by
      rw [getD_set_listed (by omega)] at hl ⊢
      by_cases eij : i = j
      · subst eij
        rw [ho] at hoj; cases hoj
        have := hpre e he hb
        split
        · rfl
        · exact this
      · rw [if_neg eij] at hl
        have := hcl j oj hoj hl e he hb
        split
        · rfl
        · exact this
    have hsetD : ∀ j, (listed.setIfInBounds i true).getD j false = if i = j then true else listed.getD j false := fun j => getD_set_listed (by omega)
    rcases hI with ⟨hN, hS, hsame, hsl⟩ | ⟨hN, hQ⟩
    · rcases Nat.lt_or_ge i N with hiN | hiN
      · have hwp := hop _ i o a w hiN ho hS h2 hsame (fun e he hb => by
          have hl := hpre e he hb
          have hlt := ht.lex i o ho e he
          exact hsl e.on (by omega) hl)
        refine wpOpIn_mono (fun a' w' h => ?_) hwp
        obtain ⟨v, rfl, hS', hG, hv⟩ := h
        refine ⟨hcl', .inl ⟨by rw [hsetD, if_neg (by omega)]; exact hN, by rw [show (fun j => (listed.setIfInBounds i true).getD j false) = (fun j => if i = j then true else listed.getD j false) from funext hsetD]; exact hS', hsame.put hiN v, fun j hj hl => ?_⟩⟩
        by_cases e : i = j
        · subst e
          rw [put_getD_same _ _ _ (by rw [hsame.size]; exact hsz i hj)]
          exact hv
        · rw [put_getD_ne _ _ _ _ (fun h => e (hdm i j hiN hj h))]
          rw [hsetD, if_neg e] at hl
          exact hΦ i j _ _ _ hiN hj e hG (hsl j hj hl)
      · have hi2 : i = N := by omega
        subst hi2
        have hall := ht.before hcl ho hpre
        refine wpOpIn_mono (fun a' w' h => ?_) (hend _ a w hS (fun j hj => hall _ j hj (Nat.le_refl _)) hsame (fun j hj => hsl j hj (hall _ j hj (Nat.le_refl _))))
        exact ⟨hcl', .inr ⟨by rw [hsetD, if_pos rfl], h⟩⟩
    · rcases Nat.lt_or_ge i N with hiN | hiN
      · obtain ⟨oN, hoN⟩ : ∃ o, ops[N]? = some o := ⟨ops[N]'(by omega), Array.getElem?_eq_getElem (by omega)⟩
        have := ht.before hcl hoN (hcl N oN hoN hN) _ i hiN (Nat.le_refl _)
        rw [h2] at this; cases this
      · have hi2 : i = N := by omega
        subst hi2
        rw [h2] at hN; cases hN
  · rintro listed a w hls ⟨hcl, hI⟩ hr
    have hready : ∀ i, i < ops.size → listed.getD i false = true := by
      intro i
      induction i using Nat.strongRecOn with
      | _ i ih =>
        intro hi
        rcases hl : listed.getD i false with _ | _
        · have hmem : i ∈ Region.ready .any ops listed := by
            simp only [Region.ready, List.mem_filter, List.mem_range, Bool.and_eq_true, Bool.not_eq_true']
            refine ⟨hi, by rw [getD_true_false (by omega)]; exact hl, ?_⟩
            rw [Array.getElem?_eq_getElem hi]
            simp only [Option.map_some, Option.getD_some]
            rw [Array.all_eq_true_iff_forall_mem]
            intro e he
            have hlt := ht.lex i _ (Array.getElem?_eq_getElem hi) e (by simpa using he)
            simp [ih e.on hlt (by omega)]
          rw [hr] at hmem; cases hmem
        · rfl
    rcases hI with ⟨hN, _⟩ | ⟨_, hQ⟩
    · rw [hready N (by omega)] at hN; cases hN
    · exact hQ
  · simp
  · have : (Array.replicate ops.size false).getD i false = false := by
      simp only [Array.getD_eq_getD_getElem?, Array.getElem?_replicate]; split <;> rfl
    rw [this] at h; cases h
  · simp only [Array.getD_eq_getD_getElem?, Array.getElem?_replicate]; split <;> rfl
  · have : (Array.replicate ops.size false).getD i false = false := by
      simp only [Array.getD_eq_getD_getElem?, Array.getElem?_replicate]; split <;> rfl
    rw [this] at h; cases h
end
section
variable {n : Nat} {ops : Array Oper} {Q : Exit → Act → World → Prop} {i : Nat} {o : Oper} {K : Act → World → Prop} {a : Act} {w : World}
theorem yielded_of {g t : Nat} {b : Bool} {og : Oper} (hg : ops[g]? = some og) (hd : og.dst = some t) (ht : t < a.tmps.size) (hv : a.tmps.getD t undef = .bool b) : yielded ops a.tmps g = some b := by
  have h1 : a.tmps[t]? = some (.bool b) := by
    rw [Array.getElem?_eq_getElem ht]
    rw [Array.getD_eq_getD_getElem?, Array.getElem?_eq_getElem ht] at hv
    simpa using hv
  unfold yielded
  simp [hg, hd, h1]
theorem yielded_undef {g t : Nat} {b : Bool} {og : Oper} (hg : ops[g]? = some og) (hd : og.dst = some t) (ht : t < a.tmps.size) (hv : a.tmps.getD t undef = undef) : yielded ops a.tmps g ≠ some b := by
  have h1 : a.tmps[t]? = some undef := by
    rw [Array.getElem?_eq_getElem ht]
    rw [Array.getD_eq_getD_getElem?, Array.getElem?_eq_getElem ht] at hv
    simpa using hv
  unfold yielded
  simp [hg, hd, h1, undef]
theorem wpOpIn_no {g : Nat} {b : Bool} (ho : ops[i]? = some o) (hg : o.guard = some (g, b)) (hy : yielded ops a.tmps g ≠ some b) (h : K (a.put o.dst undef) w) : wpOpIn Fence.wide n Try.prog ops Q i K a w := by
  unfold wpOpIn
  rw [ho]
  simp only [Region.wanted, hg]
  rw [if_neg (by simpa using hy)]
  exact ⟨fun _ _ => trivial, h⟩
theorem wpOpIn_yes {g : Nat} {b : Bool} (ho : ops[i]? = some o) (hg : o.guard = some (g, b)) (hy : yielded ops a.tmps g = some b) (h : o.wpIn Fence.wide n Try.prog a w K Q) : wpOpIn Fence.wide n Try.prog ops Q i K a w := by
  unfold wpOpIn
  rw [ho]
  simp only [Region.wanted, hg, hy]
  rw [if_pos (by cases b <;> simp)]
  exact h
theorem r_pick {v : Value} (x y z : Operand) (b : Bool) (ho : o.op = .pick x y z) (hx : a.eval x = .bool b) (hv : (if b then a.eval y else a.eval z) = v) : (execOp a.eval o).run Try.prog w = .ok (.value v) w := by
  unfold execOp
  simp only [ho, hx]
  cases b <;> simp_all <;> rfl
theorem r_eqptr {T : Nat} {v : Value} (x y : Operand) (ho : o.op = .binOp .eql T x y T) (hx : a.eval x = .pointer none) (hy : a.eval y = .pointer none) (hr : (binOp .eql T (.pointer none) (.pointer none)).run Try.prog w = .ok v w) : (execOp a.eval o).run Try.prog w = .ok (.value v) w := by
  unfold execOp
  simp only [ho, hx, hy]
  simp [go_sem, hr]
end
end Go.Proofs
namespace Go.Proofs
open Go.RowKit Go.Proofs.Pc
attribute [local go_sem ↓] Go.wp_at_zero Go.wp_at_succ
attribute [local simp, local go_sem] wide_fn wide_depth
theorem call13 (args : Array Value) (w : World) : (callFunc 13 args).run Try.prog w = .ok (.enter 13 args) w :=
  enters_of Try.func13 (by kernel_rfl) rfl args w
theorem r_call0 {o : Oper} {a : Act} {w : World} {f : FuncId} (T : Array TypeId) (ho : o.op = .call { callee := .value (.func f), args := #[], argTypes := T })
    (he : ∀ args w, (callFunc f args).run Try.prog w = .ok (.enter f args) w) : (execOp a.eval o).run Try.prog w = .ok (.enter f #[]) w := by
  have hf : a.eval (.func f) = .func (.func f) #[] #[] := rfl
  unfold execOp
  simp only [ho, resolve, List.map_toArray, List.map_nil, hf]
  simp [go_sem, he]
def svN : List SW := [SW.c (.pointer none), SW.c (.bool true), SW.c (.bool true), SW.c undef, SW.c undef, SW.c undef, SW.c undef, SW.c undef, SW.c undef, SW.c undef, SW.c undef, SW.c undef, SW.c undef, SW.c undef, SW.c (.bool true), SW.c (.bool true), SW.c (.bool true), SW.c (.bool true)]

theorem order_prog {P : PcD} (he : (checkD P).1 = 0) (w : World) (bg br : Nat) (hg : GrpAt w bg br P) :
    Calls Try.prog 18 #[.pointer (some ⟨bg, 0, none⟩)] w fun e w' => e = .returned (.int .i64 (prod P P.n)) ∧ w' = w := order_live (valid_of_check he) (small_of_check he) w bg br hg.live hg.rules

set_option maxRecDepth 100000 in
set_option maxHeartbeats 4000000 in
theorem cc_bad_in (w : World) (v0 v1 v2 : Value) (P : PcD) (hP : PcAt w v0 v1 v2 P) (he : (checkD P).1 ≠ 0) :
    CallsIn Fence.wide 3 Try.prog 3 #[.agg #[v0, v1, v2]] w fun e w' => e = .returned (.bool true) ∧ Below w.heap.size w w' := by
  obtain ⟨⟨A0, c0, rfl⟩, ⟨A1, c1, rfl⟩, A2, c2, rfl⟩ := pc_slices hP
  have HP := Lib.hid hP
  have HE := Lib.hid he
  clear he
  have HD := Lib.hid (show Bd w (.slice A0 P.orders.length c0) (.slice A1 P.powers.length c1) (.slice A2 P.conj.length c2) (w.alloc (.cells #[.slice A0 P.orders.length c0, .slice A1 P.powers.length c1, .slice A2 P.conj.length c2] 26)) from ⟨(Below.refl _ _).alloc (Nat.le_refl _) _, heap_alloc_new w _⟩)
  clear hP
  have tok : True := trivial
  gi_enter Try.func3, Try.ntmps3
  gi_wp2_with (first
    | (gi_at_call 11; (refine (callsIn_wide.2 (vast_any _ _ _ _ P (HP.out.below HD.out.below))).mono ?_); rintro e w' ⟨⟨b, rfl⟩, hb⟩; have HD := Lib.hid (HD.out.step hb); have k0 := HD.out.c0; have k1 := HD.out.c1; have k2 := HD.out.c2; clear hb)
    | (gi_at_call 12; (refine (callsIn_wide.2 (heavy_any _ _ _ _ P (HP.out.below HD.out.below))).mono ?_); rintro e w' ⟨⟨b2, rfl⟩, hb⟩; have HD := Lib.hid (HD.out.step hb); have k0 := HD.out.c0; have k1 := HD.out.c1; have k2 := HD.out.c2; clear hb)
    | (gi_at_call 13; (refine (callsIn_wide.2 (awake_any _)).mono ?_); rintro e w' ⟨rfl, hb⟩; have HD := Lib.hid (HD.out.step hb); clear hb)
    | (gi_at_call 14; (refine (callsIn_wide.2 (cons14_bad _ _ _ _ P (HP.out.below HD.out.below) HE.out)).mono ?_); rintro e w' ⟨rfl, hb⟩; have HD := Lib.hid (HD.out.step hb); have k0 := HD.out.c0; have k1 := HD.out.c1; have k2 := HD.out.c2; clear hb)
    | (gi_at_call 15; (refine (callsIn_wide.2 (cons15_bad _ _ _ _ (HP.out.below HD.out.below) HE.out)).mono ?_); rintro e w' ⟨rfl, hb⟩; have HD := Lib.hid (HD.out.step hb); have k0 := HD.out.c0; have k1 := HD.out.c1; have k2 := HD.out.c2; clear hb)
    | (gi_at_call 16; (refine (callsIn_wide.2 (new_bad _ _ _ _ P (HP.out.below HD.out.below) HE.out)).mono ?_); rintro e wn ⟨rfl, hb⟩; have HD := Lib.hid (HD.out.step hb); have k0 := HD.out.c0; have k1 := HD.out.c1; have k2 := HD.out.c2; clear hb)
    | (gi_at_call 17; (refine (callsIn_wide.2 (new17_bad _ _ _ _ (HP.out.below HD.out.below) HE.out)).mono ?_); rintro e wn ⟨rfl, hb⟩; have HD := Lib.hid (HD.out.step hb); have k0 := HD.out.c0; have k1 := HD.out.c1; have k2 := HD.out.c2; clear hb))
  iterate 2
    · exact bodyPost_ret (results_tmp (t := 2) rfl _ _ _) rfl ⟨rfl, HD.out.below⟩
  refine wpIn_region_g (by kernel_rfl) (fun i => 54 + i) 18 (tailed1_of (by kernel_rfl)) (fun _ w' => Below wn.heap.size wn w') (fun q v w => (svN.getD q SW.any).holds v w) (fun _ w w' => Below w.heap.size w w') (fun i j _ _ h => by simpa using h) (fun i j v w w' _ _ _ h => SW.keep h) (fun i hi => by show 54 + i < 72; omega) (Below.refl _ _).drew ?_ ?_
  · intro ls q o a w2 hq ho hS hls hsame hpre
    have hsz : a.tmps.size = 72 := hsame.size
    have hcases : q = 0 ∨ q = 1 ∨ q = 2 ∨ q = 3 ∨ q = 4 ∨ q = 5 ∨ q = 6 ∨ q = 7 ∨ q = 8 ∨ q = 9 ∨ q = 10 ∨ q = 11 ∨ q = 12 ∨ q = 13 ∨ q = 14 ∨ q = 15 ∨ q = 16 ∨ q = 17 := by omega
    rcases hcases with rfl | rfl | rfl | rfl | rfl | rfl | rfl | rfl | rfl | rfl | rfl | rfl | rfl | rfl | rfl | rfl | rfl | rfl
    · obtain rfl := Option.some.inj ho; exact wpOpIn_of rfl rfl (wpW_val (r_move (.tmp 8) rfl (hsame.out 8 (fun i _ h => by omega))) ⟨_, rfl, hS, Below.refl _ _, rfl⟩)
    · obtain rfl := Option.some.inj ho; exact wpOpIn_of rfl rfl (wpW_val (r_eqptr (.tmp 54) (.const (.pointer none)) rfl (hpre ⟨0, .data⟩ (by simp) rfl) rfl (by kernel_rfl)) ⟨_, rfl, hS, Below.refl _ _, rfl⟩)
    · obtain rfl := Option.some.inj ho; exact wpOpIn_of rfl rfl (wpW_val (r_move (.tmp 55) rfl (hpre ⟨1, .data⟩ (by simp) rfl)) ⟨_, rfl, hS, Below.refl _ _, rfl⟩)
    · obtain rfl := Option.some.inj ho; exact wpOpIn_no rfl rfl (by rw [yielded_of (g := 2) (t := 56) (b := true) rfl rfl (by omega) (hpre ⟨2, .guard⟩ (by simp) rfl)]; simp) ⟨_, rfl, hS, Below.refl _ _, rfl⟩
    · obtain rfl := Option.some.inj ho; exact wpOpIn_no rfl rfl (by rw [yielded_of (g := 2) (t := 56) (b := true) rfl rfl (by omega) (hpre ⟨2, .guard⟩ (by simp) rfl)]; simp) ⟨_, rfl, hS, Below.refl _ _, rfl⟩
    · obtain rfl := Option.some.inj ho; exact wpOpIn_no rfl rfl (by rw [yielded_of (g := 2) (t := 56) (b := true) rfl rfl (by omega) (hpre ⟨2, .guard⟩ (by simp) rfl)]; simp) ⟨_, rfl, hS, Below.refl _ _, rfl⟩
    · obtain rfl := Option.some.inj ho; exact wpOpIn_no rfl rfl (by rw [yielded_of (g := 2) (t := 56) (b := true) rfl rfl (by omega) (hpre ⟨2, .guard⟩ (by simp) rfl)]; simp) ⟨_, rfl, hS, Below.refl _ _, rfl⟩
    · obtain rfl := Option.some.inj ho; exact wpOpIn_no rfl rfl (by rw [yielded_of (g := 2) (t := 56) (b := true) rfl rfl (by omega) (hpre ⟨2, .guard⟩ (by simp) rfl)]; simp) ⟨_, rfl, hS, Below.refl _ _, rfl⟩
    · obtain rfl := Option.some.inj ho; exact wpOpIn_no rfl rfl (by rw [yielded_of (g := 2) (t := 56) (b := true) rfl rfl (by omega) (hpre ⟨2, .guard⟩ (by simp) rfl)]; simp) ⟨_, rfl, hS, Below.refl _ _, rfl⟩
    · obtain rfl := Option.some.inj ho; exact wpOpIn_no rfl rfl (yielded_undef (g := 8) (t := 62) rfl rfl (by omega) (hpre ⟨8, .guard⟩ (by simp) rfl)) ⟨_, rfl, hS, Below.refl _ _, rfl⟩
    · obtain rfl := Option.some.inj ho; exact wpOpIn_no rfl rfl (yielded_undef (g := 8) (t := 62) rfl rfl (by omega) (hpre ⟨8, .guard⟩ (by simp) rfl)) ⟨_, rfl, hS, Below.refl _ _, rfl⟩
    · obtain rfl := Option.some.inj ho; exact wpOpIn_no rfl rfl (yielded_undef (g := 8) (t := 62) rfl rfl (by omega) (hpre ⟨8, .guard⟩ (by simp) rfl)) ⟨_, rfl, hS, Below.refl _ _, rfl⟩
    · obtain rfl := Option.some.inj ho; exact wpOpIn_no rfl rfl (yielded_undef (g := 8) (t := 62) rfl rfl (by omega) (hpre ⟨8, .guard⟩ (by simp) rfl)) ⟨_, rfl, hS, Below.refl _ _, rfl⟩
    · obtain rfl := Option.some.inj ho; exact wpOpIn_no rfl rfl (by rw [yielded_of (g := 2) (t := 56) (b := true) rfl rfl (by omega) (hpre ⟨2, .guard⟩ (by simp) rfl)]; simp) ⟨_, rfl, hS, Below.refl _ _, rfl⟩
    · obtain rfl := Option.some.inj ho; exact wpOpIn_of rfl rfl (wpW_val (r_pick (.tmp 56) (.const (.bool true)) (.tmp 67) true rfl (hpre ⟨2, .data⟩ (by simp) rfl) rfl) ⟨_, rfl, hS, Below.refl _ _, rfl⟩)
    · obtain rfl := Option.some.inj ho; exact wpOpIn_of rfl rfl (wpW_val (r_move (.tmp 68) rfl (hpre ⟨14, .data⟩ (by simp) rfl)) ⟨_, rfl, hS, Below.refl _ _, rfl⟩)
    · obtain rfl := Option.some.inj ho; exact wpOpIn_yes rfl rfl (yielded_of (g := 15) (t := 69) (b := true) rfl rfl (by omega) (hpre ⟨15, .guard⟩ (by simp) rfl)) (wpW_call (R := fun v w' => v = .bool true ∧ Below w2.heap.size w2 w') (r_call0 _ rfl call13) ((awake_any w2).mono fun e w' ⟨he, hb⟩ => ⟨_, he, rfl, hb⟩) (fun v w'' h => ⟨v, rfl, hS.trans (h.2.mono hS.size), h.2, h.1⟩))
    · obtain rfl := Option.some.inj ho; exact wpOpIn_of rfl rfl (wpW_val (r_pick (.tmp 69) (.tmp 70) (.const (.bool false)) true rfl (hpre ⟨15, .data⟩ (by simp) rfl) (by exact hpre ⟨16, .data⟩ (by simp) rfl)) ⟨_, rfl, hS, Below.refl _ _, rfl⟩)
  · intro ls a w2 hS hlst hsame hsl
    have h71 : a.tmps.getD 71 undef = .bool true := hsl 17 (by omega)
    obtain ⟨vs, hvs, hfr⟩ := hsame.frameV 72 rfl
    refine wpOpIn_of (o := ⟨some 2, .assign (.tmp 71), 4, "law.go:154", _, none⟩) rfl rfl (wpW_val (r_asg (.tmp 71) rfl h71) ?_)
    have HD := Lib.hid (HD.out.step hS)
    clear hsl hsame h71 hS hlst hvs
    subst hfr
    dsimp only
    simp only [Act.put, List.range, List.range.loop, List.map_cons, List.map_nil, List.any_cons, List.any_nil, Nat.reduceAdd, Nat.reduceBEq, Bool.or_false, Bool.or_true, Bool.false_eq_true, if_true, if_false, List.getD_cons_zero, List.getD_cons_succ, List.setIfInBounds_toArray, List.set_cons_succ, List.set_cons_zero]
    gi_wp2_with fail
    exact bodyPost_ret (results_tmp (t := 2) rfl _ _ _) rfl ⟨rfl, HD.out.below⟩
theorem cc_bad (w : World) (v0 v1 v2 : Value) (P : PcD) (hP : PcAt w v0 v1 v2 P) (he : (checkD P).1 ≠ 0) :
    Calls Try.prog 3 #[.agg #[v0, v1, v2]] w fun e w' => e = .returned (.bool true) ∧ Below w.heap.size w w' := callsIn_wide.1 (cc_bad_in w v0 v1 v2 P hP he)

set_option maxRecDepth 100000 in
set_option maxHeartbeats 4000000 in
theorem cc_inc_in (w : World) (v0 v1 v2 : Value) (P : PcD) (hP : PcAt w v0 v1 v2 P) (he : (checkD P).1 = 0) (hc : consB P = false) :
    CallsIn Fence.wide 3 Try.prog 3 #[.agg #[v0, v1, v2]] w fun e w' => e = .returned (.bool true) ∧ Below w.heap.size w w' := by
  obtain ⟨⟨A0, c0, rfl⟩, ⟨A1, c1, rfl⟩, A2, c2, rfl⟩ := pc_slices hP
  have HP := Lib.hid hP
  have HE := Lib.hid he
  have HC := Lib.hid hc
  clear he hc
  have HD := Lib.hid (show Bd w (.slice A0 P.orders.length c0) (.slice A1 P.powers.length c1) (.slice A2 P.conj.length c2) (w.alloc (.cells #[.slice A0 P.orders.length c0, .slice A1 P.powers.length c1, .slice A2 P.conj.length c2] 26)) from ⟨(Below.refl _ _).alloc (Nat.le_refl _) _, heap_alloc_new w _⟩)
  clear hP
  have tok : True := trivial
  gi_enter Try.func3, Try.ntmps3
  gi_wp2_with (first
    | (gi_at_call 11; (refine (callsIn_wide.2 (vast_any _ _ _ _ P (HP.out.below HD.out.below))).mono ?_); rintro e w' ⟨⟨b, rfl⟩, hb⟩; have HD := Lib.hid (HD.out.step hb); have k0 := HD.out.c0; have k1 := HD.out.c1; have k2 := HD.out.c2; clear hb)
    | (gi_at_call 12; (refine (callsIn_wide.2 (heavy_any _ _ _ _ P (HP.out.below HD.out.below))).mono ?_); rintro e w' ⟨⟨b2, rfl⟩, hb⟩; have HD := Lib.hid (HD.out.step hb); have k0 := HD.out.c0; have k1 := HD.out.c1; have k2 := HD.out.c2; clear hb)
    | (gi_at_call 13; (refine (callsIn_wide.2 (awake_any _)).mono ?_); rintro e w' ⟨rfl, hb⟩; have HD := Lib.hid (HD.out.step hb); clear hb)
    | (gi_at_call 14; (refine (callsIn_wide.2 (cons14_good _ _ _ _ P (HP.out.below HD.out.below) HE.out)).mono ?_); rintro e w' ⟨rfl, hb⟩; have HD := Lib.hid (HD.out.step hb); have k0 := HD.out.c0; have k1 := HD.out.c1; have k2 := HD.out.c2; clear hb)
    | (gi_at_call 15; (refine (callsIn_wide.2 (cons15_good _ _ _ _ (HP.out.below HD.out.below) HE.out)).mono ?_); rintro e w' ⟨rfl, hb⟩; have HD := Lib.hid (HD.out.step hb); have k0 := HD.out.c0; have k1 := HD.out.c1; have k2 := HD.out.c2; clear hb)
    | (gi_at_call 16; (refine (callsIn_wide.2 (new_inc _ _ _ _ P (HP.out.below HD.out.below) HE.out HC.out)).mono ?_); rintro e wn ⟨rfl, hb⟩; have HD := Lib.hid (HD.out.step hb); have k0 := HD.out.c0; have k1 := HD.out.c1; have k2 := HD.out.c2; clear hb)
    | (gi_at_call 17; (refine (callsIn_wide.2 (new17_inc _ _ _ _ (HP.out.below HD.out.below) HE.out HC.out)).mono ?_); rintro e wn ⟨rfl, hb⟩; have HD := Lib.hid (HD.out.step hb); have k0 := HD.out.c0; have k1 := HD.out.c1; have k2 := HD.out.c2; clear hb))
  iterate 2
    · exact bodyPost_ret (results_tmp (t := 2) rfl _ _ _) rfl ⟨rfl, HD.out.below⟩
  refine wpIn_region_g (by kernel_rfl) (fun i => 54 + i) 18 (tailed1_of (by kernel_rfl)) (fun _ w' => Below wn.heap.size wn w') (fun q v w => (svN.getD q SW.any).holds v w) (fun _ w w' => Below w.heap.size w w') (fun i j _ _ h => by simpa using h) (fun i j v w w' _ _ _ h => SW.keep h) (fun i hi => by show 54 + i < 72; omega) (Below.refl _ _).drew ?_ ?_
  · intro ls q o a w2 hq ho hS hls hsame hpre
    have hsz : a.tmps.size = 72 := hsame.size
    have hcases : q = 0 ∨ q = 1 ∨ q = 2 ∨ q = 3 ∨ q = 4 ∨ q = 5 ∨ q = 6 ∨ q = 7 ∨ q = 8 ∨ q = 9 ∨ q = 10 ∨ q = 11 ∨ q = 12 ∨ q = 13 ∨ q = 14 ∨ q = 15 ∨ q = 16 ∨ q = 17 := by omega
    rcases hcases with rfl | rfl | rfl | rfl | rfl | rfl | rfl | rfl | rfl | rfl | rfl | rfl | rfl | rfl | rfl | rfl | rfl | rfl
    · obtain rfl := Option.some.inj ho; exact wpOpIn_of rfl rfl (wpW_val (r_move (.tmp 8) rfl (hsame.out 8 (fun i _ h => by omega))) ⟨_, rfl, hS, Below.refl _ _, rfl⟩)
    · obtain rfl := Option.some.inj ho; exact wpOpIn_of rfl rfl (wpW_val (r_eqptr (.tmp 54) (.const (.pointer none)) rfl (hpre ⟨0, .data⟩ (by simp) rfl) rfl (by kernel_rfl)) ⟨_, rfl, hS, Below.refl _ _, rfl⟩)
    · obtain rfl := Option.some.inj ho; exact wpOpIn_of rfl rfl (wpW_val (r_move (.tmp 55) rfl (hpre ⟨1, .data⟩ (by simp) rfl)) ⟨_, rfl, hS, Below.refl _ _, rfl⟩)
    · obtain rfl := Option.some.inj ho; exact wpOpIn_no rfl rfl (by rw [yielded_of (g := 2) (t := 56) (b := true) rfl rfl (by omega) (hpre ⟨2, .guard⟩ (by simp) rfl)]; simp) ⟨_, rfl, hS, Below.refl _ _, rfl⟩
    · obtain rfl := Option.some.inj ho; exact wpOpIn_no rfl rfl (by rw [yielded_of (g := 2) (t := 56) (b := true) rfl rfl (by omega) (hpre ⟨2, .guard⟩ (by simp) rfl)]; simp) ⟨_, rfl, hS, Below.refl _ _, rfl⟩
    · obtain rfl := Option.some.inj ho; exact wpOpIn_no rfl rfl (by rw [yielded_of (g := 2) (t := 56) (b := true) rfl rfl (by omega) (hpre ⟨2, .guard⟩ (by simp) rfl)]; simp) ⟨_, rfl, hS, Below.refl _ _, rfl⟩
    · obtain rfl := Option.some.inj ho; exact wpOpIn_no rfl rfl (by rw [yielded_of (g := 2) (t := 56) (b := true) rfl rfl (by omega) (hpre ⟨2, .guard⟩ (by simp) rfl)]; simp) ⟨_, rfl, hS, Below.refl _ _, rfl⟩
    · obtain rfl := Option.some.inj ho; exact wpOpIn_no rfl rfl (by rw [yielded_of (g := 2) (t := 56) (b := true) rfl rfl (by omega) (hpre ⟨2, .guard⟩ (by simp) rfl)]; simp) ⟨_, rfl, hS, Below.refl _ _, rfl⟩
    · obtain rfl := Option.some.inj ho; exact wpOpIn_no rfl rfl (by rw [yielded_of (g := 2) (t := 56) (b := true) rfl rfl (by omega) (hpre ⟨2, .guard⟩ (by simp) rfl)]; simp) ⟨_, rfl, hS, Below.refl _ _, rfl⟩
    · obtain rfl := Option.some.inj ho; exact wpOpIn_no rfl rfl (yielded_undef (g := 8) (t := 62) rfl rfl (by omega) (hpre ⟨8, .guard⟩ (by simp) rfl)) ⟨_, rfl, hS, Below.refl _ _, rfl⟩
    · obtain rfl := Option.some.inj ho; exact wpOpIn_no rfl rfl (yielded_undef (g := 8) (t := 62) rfl rfl (by omega) (hpre ⟨8, .guard⟩ (by simp) rfl)) ⟨_, rfl, hS, Below.refl _ _, rfl⟩
    · obtain rfl := Option.some.inj ho; exact wpOpIn_no rfl rfl (yielded_undef (g := 8) (t := 62) rfl rfl (by omega) (hpre ⟨8, .guard⟩ (by simp) rfl)) ⟨_, rfl, hS, Below.refl _ _, rfl⟩
    · obtain rfl := Option.some.inj ho; exact wpOpIn_no rfl rfl (yielded_undef (g := 8) (t := 62) rfl rfl (by omega) (hpre ⟨8, .guard⟩ (by simp) rfl)) ⟨_, rfl, hS, Below.refl _ _, rfl⟩
    · obtain rfl := Option.some.inj ho; exact wpOpIn_no rfl rfl (by rw [yielded_of (g := 2) (t := 56) (b := true) rfl rfl (by omega) (hpre ⟨2, .guard⟩ (by simp) rfl)]; simp) ⟨_, rfl, hS, Below.refl _ _, rfl⟩
    · obtain rfl := Option.some.inj ho; exact wpOpIn_of rfl rfl (wpW_val (r_pick (.tmp 56) (.const (.bool true)) (.tmp 67) true rfl (hpre ⟨2, .data⟩ (by simp) rfl) rfl) ⟨_, rfl, hS, Below.refl _ _, rfl⟩)
    · obtain rfl := Option.some.inj ho; exact wpOpIn_of rfl rfl (wpW_val (r_move (.tmp 68) rfl (hpre ⟨14, .data⟩ (by simp) rfl)) ⟨_, rfl, hS, Below.refl _ _, rfl⟩)
    · obtain rfl := Option.some.inj ho; exact wpOpIn_yes rfl rfl (yielded_of (g := 15) (t := 69) (b := true) rfl rfl (by omega) (hpre ⟨15, .guard⟩ (by simp) rfl)) (wpW_call (R := fun v w' => v = .bool true ∧ Below w2.heap.size w2 w') (r_call0 _ rfl call13) ((awake_any w2).mono fun e w' ⟨he, hb⟩ => ⟨_, he, rfl, hb⟩) (fun v w'' h => ⟨v, rfl, hS.trans (h.2.mono hS.size), h.2, h.1⟩))
    · obtain rfl := Option.some.inj ho; exact wpOpIn_of rfl rfl (wpW_val (r_pick (.tmp 69) (.tmp 70) (.const (.bool false)) true rfl (hpre ⟨15, .data⟩ (by simp) rfl) (by exact hpre ⟨16, .data⟩ (by simp) rfl)) ⟨_, rfl, hS, Below.refl _ _, rfl⟩)
  · intro ls a w2 hS hlst hsame hsl
    have h71 : a.tmps.getD 71 undef = .bool true := hsl 17 (by omega)
    obtain ⟨vs, hvs, hfr⟩ := hsame.frameV 72 rfl
    refine wpOpIn_of (o := ⟨some 2, .assign (.tmp 71), 4, "law.go:154", _, none⟩) rfl rfl (wpW_val (r_asg (.tmp 71) rfl h71) ?_)
    have HD := Lib.hid (HD.out.step hS)
    clear hsl hsame h71 hS hlst hvs
    subst hfr
    dsimp only
    simp only [Act.put, List.range, List.range.loop, List.map_cons, List.map_nil, List.any_cons, List.any_nil, Nat.reduceAdd, Nat.reduceBEq, Bool.or_false, Bool.or_true, Bool.false_eq_true, if_true, if_false, List.getD_cons_zero, List.getD_cons_succ, List.setIfInBounds_toArray, List.set_cons_succ, List.set_cons_zero]
    gi_wp2_with fail
    exact bodyPost_ret (results_tmp (t := 2) rfl _ _ _) rfl ⟨rfl, HD.out.below⟩
theorem cc_inc (w : World) (v0 v1 v2 : Value) (P : PcD) (hP : PcAt w v0 v1 v2 P) (he : (checkD P).1 = 0) (hc : consB P = false) :
    Calls Try.prog 3 #[.agg #[v0, v1, v2]] w fun e w' => e = .returned (.bool true) ∧ Below w.heap.size w w' := callsIn_wide.1 (cc_inc_in w v0 v1 v2 P hP he hc)

set_option maxRecDepth 100000 in
set_option maxHeartbeats 4000000 in
theorem cc_good (w : World) (v0 v1 v2 : Value) (P : PcD) (hP : PcAt w v0 v1 v2 P) (he : (checkD P).1 = 0) (hc : consB P = true) :
    Calls Try.prog 3 #[.agg #[v0, v1, v2]] w fun e w' => e = .returned (.bool true) ∧ Below w.heap.size w w' := by
  obtain ⟨⟨A0, c0, rfl⟩, ⟨A1, c1, rfl⟩, A2, c2, rfl⟩ := pc_slices hP
  have HP := Lib.hid hP
  have HE := Lib.hid he
  have HC := Lib.hid hc
  clear he hc
  have HD := Lib.hid (show Bd w (.slice A0 P.orders.length c0) (.slice A1 P.powers.length c1) (.slice A2 P.conj.length c2) (w.alloc (.cells #[.slice A0 P.orders.length c0, .slice A1 P.powers.length c1, .slice A2 P.conj.length c2] 26)) from ⟨(Below.refl _ _).alloc (Nat.le_refl _) _, heap_alloc_new w _⟩)
  clear hP
  have tok : True := trivial
  go_enter Try.func3, Try.ntmps3
  go_wp2_with (first
    | (go_at_call 11; (refine (vast_any _ _ _ _ P (HP.out.below HD.out.below)).mono ?_); rintro e w' ⟨⟨b, rfl⟩, hb⟩; have HD := Lib.hid (HD.out.step hb); have k0 := HD.out.c0; have k1 := HD.out.c1; have k2 := HD.out.c2; clear hb)
    | (go_at_call 12; (refine (heavy_any _ _ _ _ P (HP.out.below HD.out.below)).mono ?_); rintro e w' ⟨⟨b2, rfl⟩, hb⟩; have HD := Lib.hid (HD.out.step hb); have k0 := HD.out.c0; have k1 := HD.out.c1; have k2 := HD.out.c2; clear hb)
    | (go_at_call 13; (refine (awake_any _).mono ?_); rintro e w' ⟨rfl, hb⟩; have HD := Lib.hid (HD.out.step hb); clear hb)
    | (go_at_call 14; (refine (cons14_good _ _ _ _ P (HP.out.below HD.out.below) HE.out).mono ?_); rintro e w' ⟨rfl, hb⟩; rw [HC.out]; have HD := Lib.hid (HD.out.step hb); have k0 := HD.out.c0; have k1 := HD.out.c1; have k2 := HD.out.c2; clear hb)
    | (go_at_call 15; (refine (cons15_good _ _ _ _ (HP.out.below HD.out.below) HE.out).mono ?_); rintro e w' ⟨rfl, hb⟩; rw [HC.out]; have HD := Lib.hid (HD.out.step hb); have k0 := HD.out.c0; have k1 := HD.out.c1; have k2 := HD.out.c2; clear hb)
    | (go_at_call 16; (refine (new_good _ _ _ _ P (HP.out.below HD.out.below) HE.out HC.out).mono ?_); rintro e w' ⟨⟨bg, br, rfl, hg, -⟩, hb⟩; have HD := Lib.hid (HD.out.step hb); have k0 := HD.out.c0; have k1 := HD.out.c1; have k2 := HD.out.c2; have HG := Lib.hid hg; clear hb hg)
    | (go_at_call 17; (refine (new17_good _ _ _ _ (HP.out.below HD.out.below) HE.out HC.out).mono ?_); rintro e wn ⟨⟨bh, rfl, hh⟩, hb⟩; have HD := Lib.hid (HD.out.step hb); have k0 := HD.out.c0; have k1 := HD.out.c1; have k2 := HD.out.c2; have HG := Lib.hid (HG.out.below hb); have HH := Lib.hid hh; clear hb hh))
  iterate 2
    · go_ret
      exact ⟨rfl, HD.out.below⟩
  have HS : Hid (∀ w' : World, Below wn.heap.size wn w' → (w'.cell? ⟨w.heap.size, 0, none⟩ = some (.slice A0 P.orders.length c0) ∧ w'.cell? ⟨w.heap.size, 1, none⟩ = some (.slice A1 P.powers.length c1) ∧ w'.cell? ⟨w.heap.size, 2, none⟩ = some (.slice A2 P.conj.length c2))) := Lib.hid (fun w' hb => ⟨(HD.out.step hb).c0, (HD.out.step hb).c1, (HD.out.step hb).c2⟩)
  have HW := Lib.hid ((Below.refl wn.heap.size wn).drew)
  have HD := Lib.hid (HD.out.step HW.out)
  have HG := Lib.hid (HG.out.below HW.out)
  have HH := Lib.hid (HH.out.below HW.out)
  go_region_held3 (fun w' => w'.cell? ⟨w.heap.size, 0, none⟩ = some (.slice A0 P.orders.length c0) ∧ w'.cell? ⟨w.heap.size, 1, none⟩ = some (.slice A1 P.powers.length c1) ∧ w'.cell? ⟨w.heap.size, 2, none⟩ = some (.slice A2 P.conj.length c2)) (first | exact HS.out _ HW.out | exact HS.out _ (Below.refl _ _))
    (first
      | (go_at_call 18; (refine (order_prog HE.out _ bg br HG.out).mono ?_); rintro e w' ⟨rfl, rfl⟩)
      | (go_at_call 19; (refine (order19_any (small_of_check HE.out) _ bh HH.out).mono ?_); rintro e w' ⟨rfl, rfl⟩)
      | (go_at_call 21; (refine (pc_live (valid_of_check HE.out) _ bg br HG.out).mono ?_); rintro e w' ⟨⟨x0, x1, x2, rfl, hpc⟩, hb⟩; obtain ⟨⟨B0, d0, rfl⟩, ⟨B1, d1, rfl⟩, B2, d2, rfl⟩ := pc_slices hpc; have HPC := Lib.hid hpc; have HW := Lib.hid (HW.out.trans (hb.mono HW.out.size)); have HD := Lib.hid (HD.out.step hb); clear hb hpc)
      | (go_at_call 20; (refine (same_any _ _ _ _ _ _ _ P P HPC.out (HP.out.below HD.out.below)).mono ?_); rintro e w' ⟨rfl, hb⟩; rw [sameB_iff.2 rfl]; have HW := Lib.hid (HW.out.trans (hb.mono HW.out.size)); have HD := Lib.hid (HD.out.step hb); clear hb)
      | (go_at_call 13; (refine (awake_any _).mono ?_); rintro e w' ⟨rfl, hb⟩; have HW := Lib.hid (HW.out.trans (hb.mono HW.out.size)); have HD := Lib.hid (HD.out.step hb); clear hb))
  all_goals
    go_wp2_with fail
    go_ret
    exact ⟨rfl, HD.out.below⟩

theorem cc_walk (w : World) (v0 v1 v2 : Value) (P : PcD) (hP : PcAt w v0 v1 v2 P) :
    Calls Try.prog 3 #[.agg #[v0, v1, v2]] w fun e w' => e = .returned (.bool true) ∧ Below w.heap.size w w' := by
  by_cases he : (checkD P).1 = 0
  · cases hc : consB P
    · exact cc_inc w v0 v1 v2 P hP he hc
    · exact cc_good w v0 v1 v2 P hP he hc
  · exact cc_bad w v0 v1 v2 P hP he
end Go.Proofs
namespace Go.Proofs
open Go.RowKit Go.Proofs.Pc

def LenTo {α : Type} (L : List (List α)) (k : Nat) : Prop := ∀ j, j < k → (L.getD j []).length ≤ 15
theorem LenTo.step {α : Type} {L : List (List α)} {k : Nat} (h : LenTo L k) (hk : (L.getD k []).length ≤ 15) : LenTo L (k + 1) := fun j hj => by
  rcases Nat.lt_or_ge j k with h1 | h1
  · exact h j h1
  · obtain rfl : j = k := by omega
    exact hk
def RowsTo (C : List (List (List Int))) (k : Nat) : Prop := ∀ j, j < k → LenTo (C.getD j []) (C.getD j []).length
theorem RowsTo.step {C : List (List (List Int))} {k : Nat} (h : RowsTo C k) (hk : LenTo (C.getD k []) (C.getD k []).length) : RowsTo C (k + 1) := fun j hj => by
  rcases Nat.lt_or_ge j k with h1 | h1
  · exact h j h1
  · obtain rfl : j = k := by omega
    exact hk
structure Sizes (P : PcD) : Prop where
  o : P.orders.length ≤ 15
  p : P.powers.length ≤ 15
  pl : LenTo P.powers P.powers.length
  c : P.conj.length ≤ 15
  cl : LenTo P.conj P.conj.length
  rl : RowsTo P.conj P.conj.length
def VastPost (P : PcD) (w : World) (e : Ending) (w' : World) : Prop := (∃ b : Bool, e = .returned (.bool b) ∧ (b = false → Sizes P)) ∧ Below w.heap.size w w'

set_option maxRecDepth 100000 in
set_option maxHeartbeats 1000000 in
theorem vast_bd (w : World) (v0 v1 v2 : Value) (P : PcD) (hP : PcAt w v0 v1 v2 P) : Calls Try.prog 11 #[.agg #[v0, v1, v2]] w (VastPost P w) := by
  obtain ⟨A0, c0, rfl, h01, h02, hr0⟩ := hP.1.open_
  obtain ⟨A1, c1, rfl, h11, h12, hr1⟩ := hP.2.1.open_
  obtain ⟨A2, c2, rfl, h21, h22, hr2⟩ := hP.2.2.open_
  have HD := Lib.hid (show Bc w (.slice A0 P.orders.length c0) (.slice A1 P.powers.length c1) (.slice A2 P.conj.length c2) (w.alloc (.cells #[.slice A0 P.orders.length c0, .slice A1 P.powers.length c1, .slice A2 P.conj.length c2] 26)) from ⟨(Below.refl _ _).alloc (Nat.le_refl _) _, heap_alloc_new w _⟩)
  have HP := Lib.hid hP
  clear hr0 hr1 hr2 hP
  by_cases hbig : P.orders.length > 15 ∨ P.powers.length > 15 ∨ P.conj.length > 15
  · rcases hbig with h | h | h
    · have d : decide ((15 : Int) < (P.orders.length : Int)) = true := by simp; omega
      go_enter Try.func11, Try.ntmps11
      go_wp2_with fail
      go_ret
      exact ⟨⟨true, rfl, fun h => by cases h⟩, HD.out.below⟩
    · by_cases h' : P.orders.length > 15
      · have d : decide ((15 : Int) < (P.orders.length : Int)) = true := by simp; omega
        go_enter Try.func11, Try.ntmps11
        go_wp2_with fail
        go_ret
        exact ⟨⟨true, rfl, fun h => by cases h⟩, HD.out.below⟩
      · have d' : decide ((15 : Int) < (P.orders.length : Int)) = false := by simp; omega
        have d : decide ((15 : Int) < (P.powers.length : Int)) = true := by simp; omega
        go_enter Try.func11, Try.ntmps11
        go_wp2_with fail
        go_ret
        exact ⟨⟨true, rfl, fun h => by cases h⟩, HD.out.below⟩
    · by_cases h' : P.orders.length > 15
      · have d : decide ((15 : Int) < (P.orders.length : Int)) = true := by simp; omega
        go_enter Try.func11, Try.ntmps11
        go_wp2_with fail
        go_ret
        exact ⟨⟨true, rfl, fun h => by cases h⟩, HD.out.below⟩
      · have d' : decide ((15 : Int) < (P.orders.length : Int)) = false := by simp; omega
        by_cases h'' : P.powers.length > 15
        · have d : decide ((15 : Int) < (P.powers.length : Int)) = true := by simp; omega
          go_enter Try.func11, Try.ntmps11
          go_wp2_with fail
          go_ret
          exact ⟨⟨true, rfl, fun h => by cases h⟩, HD.out.below⟩
        · have d'' : decide ((15 : Int) < (P.powers.length : Int)) = false := by simp; omega
          have d : decide ((15 : Int) < (P.conj.length : Int)) = true := by simp; omega
          go_enter Try.func11, Try.ntmps11
          go_wp2_with fail
          go_ret
          exact ⟨⟨true, rfl, fun h => by cases h⟩, HD.out.below⟩
  have e0 : decide ((15 : Int) < (P.orders.length : Int)) = false := by simp; omega
  have e1 : decide ((15 : Int) < (P.powers.length : Int)) = false := by simp; omega
  have e2 : decide ((15 : Int) < (P.conj.length : Int)) = false := by simp; omega
  go_enter Try.func11, Try.ntmps11
  go_wp2_with fail
  generalize w.alloc (.cells #[.slice A0 P.orders.length c0, .slice A1 P.powers.length c1, .slice A2 P.conj.length c2] 26) = W at *
  have k1 := HD.out.c1
  have k2 := HD.out.c2
  have HPW := Lib.hid (HP.out.below HD.out.below)
  go_loop [3] (fun s => ∃ k : Nat, k ≤ P.powers.length ∧ s = .int .i64 k ∧ LenTo P.powers k) (fun s => P.powers.length - (intOf s).toNat)
  case atStart => exact ⟨0, Nat.zero_le _, rfl, fun j hj => absurd hj (Nat.not_lt_zero j)⟩
  case round =>
    obtain ⟨k, hk, rfl, hto⟩ := hrel
    by_cases hlt : k < P.powers.length
    · obtain ⟨b, o, A, cc, rfl, hc, hI⟩ := pow_cell' HPW.out hlt
      have hk0 : (0 : Int) ≤ (k : Int) := Int.natCast_nonneg _
      have hk1 : (k : Int) < (P.powers.length : Int) := by omega
      clear hI
      by_cases hl : (P.pow k).length > 15
      · have d : decide ((15 : Int) < ((P.pow k).length : Int)) = true := by simp; omega
        go_wp2_with fail
        go_ret
        exact ⟨⟨true, rfl, fun h => by cases h⟩, HD.out.below⟩
      · have d : decide ((15 : Int) < ((P.pow k).length : Int)) = false := by simp; omega
        go_wp2_with fail
        go_round
        case rel => exact ⟨k + 1, by omega, by go_num, LenTo.step hto (show (P.pow k).length ≤ 15 by omega)⟩
        case measure => simp [intOf]; omega
    · obtain rfl : k = P.powers.length := by omega
      have HT1 := Lib.hid hto
      clear hto
      go_wp2_with fail
      go_loop [4] (fun s => ∃ k : Nat, k ≤ P.conj.length ∧ s = .int .i64 k ∧ LenTo P.conj k ∧ RowsTo P.conj k) (fun s => P.conj.length - (intOf s).toNat)
      case atStart => exact ⟨0, Nat.zero_le _, rfl, fun j hj => absurd hj (Nat.not_lt_zero j), fun j hj => absurd hj (Nat.not_lt_zero j)⟩
      case round =>
        obtain ⟨k, hk, rfl, hto1, hto2⟩ := hrel
        by_cases hlt : k < P.conj.length
        · obtain ⟨b, o, A, cc, rfl, hc, hc1, hc2, hT⟩ := conj_row' HPW.out hlt
          have hk0 : (0 : Int) ≤ (k : Int) := Int.natCast_nonneg _
          have hk1 : (k : Int) < (P.conj.length : Int) := by omega
          generalize hrow : P.conj.getD k [] = row at *
          have HRW := Lib.hid hrow
          clear hrow
          have HT := Lib.hid hT
          clear hT
          by_cases hl : row.length > 15
          · have d : decide ((15 : Int) < (row.length : Int)) = true := by simp; omega
            go_wp2_with fail
            go_ret
            exact ⟨⟨true, rfl, fun h => by cases h⟩, HD.out.below⟩
          · have d : decide ((15 : Int) < (row.length : Int)) = false := by simp; omega
            go_wp2_with fail
            go_loop [5] (fun s => ∃ j : Nat, j ≤ row.length ∧ s = .int .i64 j ∧ LenTo row j) (fun s => row.length - (intOf s).toNat)
            case atStart => exact ⟨0, Nat.zero_le _, rfl, fun j hj => absurd hj (Nat.not_lt_zero j)⟩
            case round =>
              obtain ⟨j, hj, rfl, hto3⟩ := hrel
              by_cases hjl : j < row.length
              · obtain ⟨b3, o3, A3, c3, rfl, hcj, hIj⟩ := row_cell' HT.out hjl
                have hj0 : (0 : Int) ≤ (j : Int) := Int.natCast_nonneg _
                have hj1 : (j : Int) < (row.length : Int) := by omega
                clear hIj
                generalize hrj : row.getD j [] = rj at *
                have HRJ := Lib.hid hrj
                clear hrj
                by_cases hl2 : rj.length > 15
                · have d2 : decide ((15 : Int) < (rj.length : Int)) = true := by simp; omega
                  go_wp2_with fail
                  go_ret
                  exact ⟨⟨true, rfl, fun h => by cases h⟩, HD.out.below⟩
                · have d2 : decide ((15 : Int) < (rj.length : Int)) = false := by simp; omega
                  go_wp2_with fail
                  go_round
                  case rel => exact ⟨j + 1, by omega, by go_num, LenTo.step hto3 (by rw [HRJ.out]; omega)⟩
                  case measure => simp [intOf]; omega
              · obtain rfl : j = row.length := by omega
                go_wp2_with fail
                go_round
                case rel => exact ⟨k + 1, by omega, by go_num, LenTo.step hto1 (by rw [HRW.out]; omega), RowsTo.step hto2 (by rw [HRW.out]; exact hto3)⟩
                case measure => simp [intOf]; omega
        · obtain rfl : k = P.conj.length := by omega
          go_wp2_with fail
          go_ret
          exact ⟨⟨false, rfl, fun _ => ⟨by omega, by omega, HT1.out, by omega, hto1, hto2⟩⟩, HD.out.below⟩
end Go.Proofs
