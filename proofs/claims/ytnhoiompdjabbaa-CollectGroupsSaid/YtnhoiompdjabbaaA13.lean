/- The reference's Consistent. -/
import Derived.Test.YtnhoiompdjabbaaA10
import Derived.Test.YtnhoiompdjabbaaA4
import Derived.Deep.RegionHeld3
import Derived.Deep.DrawnRows
namespace Go.Proofs
open Go.RowKit Go.Proofs.Pc
attribute [local go_sem ↓] Go.wp_at_zero Go.wp_at_succ

def AllEq (l : List (V × V)) : Prop := ∀ p ∈ l, p.1 = p.2
theorem AllEq.snoc {l : List (V × V)} {x : V × V} (h : AllEq l) (hx : x.1 = x.2) : AllEq (l ++ [x]) := fun p hp => (List.mem_append.1 hp).elim (h p) (fun e => by simp at e; subst e; exact hx)
theorem eq12_iff {P : PcD} (hv : Valid P) {x y : V} (hx : NV P x) (hy : NV P y) : eq12 x y = true ↔ x = y := by
  have h12 := hv.n12
  unfold eq12
  rw [List.all_eq_true]
  constructor
  · intro h
    refine getD_ext (d := 0) (by rw [hx.1, hy.1]) fun k hk => ?_
    rw [hx.1] at hk
    simpa using h k (by simp; omega)
  · rintro rfl k _
    simp
/-- all that the overlaps hold is normal -/
theorem ovl_NV {P : PcD} (hv : Valid P) : ∀ p ∈ ovl P, NV P p.1 ∧ NV P p.2 := by
  have hu : ∀ {i : Nat}, i < P.n → NV P (uP P i 1) := fun {i} hi => uP_NV hv (by omega) (fun h => by have := hv.ord2 i h; omega)
  have hp : ∀ {i : Nat}, i < P.n → NV P (P.pow i) := fun {i} hi => norm_NV (hv.pow i hi)
  have hm : ∀ {j : Nat}, j < P.n → NV P (uP P j (P.ord j - 1)) := fun {j} hj => uP_NV hv (by have := hv.ord2 j hj; omega) (fun h => by omega)
  have hK : ∀ i j m, i < P.n → j < P.n → m ≤ P.n → ∀ p ∈ ovK P i j m, NV P p.1 ∧ NV P p.2 := fun i j m hi hj hm' => by
    unfold ovK
    refine foldTo_inv (p := fun l : List (V × V) => ∀ p ∈ l, NV P p.1 ∧ NV P p.2) _ (fun t l ht hl p hp' => ?_) [] (fun p hp' => by cases hp')
    rcases List.mem_append.1 hp' with h | h
    · exact hl p h
    · have : p = pK P i j (j + 1 + t) := by simpa using h
      subst this
      exact ⟨mulP_NV hv (mulP_NV hv (hu (by omega))), mulP_NV hv (hu (by omega))⟩
  have hJ : ∀ i m, i < P.n → m ≤ P.n → ∀ p ∈ ovJ P i m, NV P p.1 ∧ NV P p.2 := fun i m hi hm' => by
    unfold ovJ
    refine foldTo_inv (p := fun l : List (V × V) => ∀ p ∈ l, NV P p.1 ∧ NV P p.2) _ (fun t l ht hl p hp' => ?_) [] (fun p hp' => by cases hp')
    have hj : i + 1 + t < P.n := by omega
    rcases List.mem_append.1 hp' with h | h
    · exact hl p h
    · rcases List.mem_append.1 h with h | h
      · have : p = pJ1 P i (i + 1 + t) ∨ p = pJ2 P i (i + 1 + t) := by simpa using h
        rcases this with rfl | rfl
        · exact ⟨mulP_NV hv (hp hj), mulP_NV hv (hm hj)⟩
        · exact ⟨iter_inv (fun z hz => timesF_NV hv _ _ z hi hz) _ _ (hu hj), mulP_NV hv (hu hj)⟩
      · exact hK i (i + 1 + t) P.n hi hj (Nat.le_refl _) p h
  unfold ovl ovI
  refine foldTo_inv (p := fun l : List (V × V) => ∀ p ∈ l, NV P p.1 ∧ NV P p.2) _ (fun i l hi hl p hp' => ?_) [] (fun p hp' => by cases hp')
  rcases List.mem_append.1 hp' with h | h
  · exact hl p h
  · rcases List.mem_append.1 h with h | h
    · have : p = pI P i := by simpa using h
      subst this
      exact ⟨mulP_NV hv (hp hi), mulP_NV hv (hu hi)⟩
    · exact hJ i P.n hi (Nat.le_refl _) p h
theorem consB_true {P : PcD} (hv : Valid P) (h : AllEq (ovl P)) : consB P = true := List.all_eq_true.2 fun p hp => (eq12_iff hv (ovl_NV hv p hp).1 (ovl_NV hv p hp).2).2 (h p hp)
theorem consB_false {P : PcD} (hv : Valid P) {p : V × V} {l : List (V × V)} (hp : Pre (l ++ [p]) (ovl P)) (h : p.1 ≠ p.2) : consB P = false := by
  have hm : p ∈ ovl P := by obtain ⟨s, e⟩ := hp; rw [e]; simp
  rw [Bool.eq_false_iff]
  intro hc
  exact h ((eq12_iff hv (ovl_NV hv p hm).1 (ovl_NV hv p hm).2).1 (List.all_eq_true.1 hc p hm))
theorem consB_all {P : PcD} (hv : Valid P) (h : consB P = true) : AllEq (ovl P) := fun p hp => (eq12_iff hv (ovl_NV hv p hp).1 (ovl_NV hv p hp).2).1 (List.all_eq_true.1 h p hp)

/-- the box of the presentation, and all that was before -/
structure Bd (w : World) (a0 a1 a2 : Value) (W : World) : Prop where
  below : Below w.heap.size w W
  box : W.heap[w.heap.size]? = some (.cells #[a0, a1, a2] 26 (0, 0))
theorem Bd.step {w W W' : World} {a0 a1 a2 : Value} (h : Bd w a0 a1 a2 W) (hb : Below W.heap.size W W') : Bd w a0 a1 a2 W' :=
  ⟨h.below.trans (hb.mono h.below.size), (hb.block _ (Array.getElem?_eq_some_iff.1 h.box).1).trans h.box⟩
theorem Bd.c0 {w W : World} {a0 a1 a2 : Value} (h : Bd w a0 a1 a2 W) : W.cell? ⟨w.heap.size, 0, none⟩ = some a0 := by rw [cell_of_row _ _ _ _ _ _ h.box]; rfl
theorem Bd.c1 {w W : World} {a0 a1 a2 : Value} (h : Bd w a0 a1 a2 W) : W.cell? ⟨w.heap.size, 1, none⟩ = some a1 := by rw [cell_of_row _ _ _ _ _ _ h.box]; rfl
theorem Bd.c2 {w W : World} {a0 a1 a2 : Value} (h : Bd w a0 a1 a2 W) : W.cell? ⟨w.heap.size, 2, none⟩ = some a2 := by rw [cell_of_row _ _ _ _ _ _ h.box]; rfl
theorem PcAt.drew {w : World} {v0 v1 v2 : Value} {P : PcD} (h : PcAt w v0 v1 v2 P) : PcAt w.drew v0 v1 v2 P := h
theorem xsOut_intro {P : PcD} {w w' : World} {x : List Int} {v : Value} (hv : Valid P) (hx : NV P x) (h : XsOut w.heap.size P w x v w') : ∃ b cap, v = .slice (some ⟨b, 0, none⟩) P.n cap ∧ IntsAt w' (.slice (some ⟨b, 0, none⟩) P.n cap) x ∧ Below w.heap.size w w' := by
  have hi := h.ints hv hx
  obtain ⟨b, cap, rfl, -, -, -, -, hb⟩ := h
  exact ⟨b, cap, rfl, hi, hb⟩
theorem below_of_drew {B : Nat} {w w' : World} (h : Below B w.drew w') : Below B w w' := ((Below.refl B w).drew).trans h
/-- unit, product as the walk of Consistent takes them -/
theorem unitRef_D {P : PcD} (hv : Valid P) {w0 w : World} {v0 v1 v2 : Value} (h0 : PcAt w0 v0 v1 v2 P) (hD : Bd w0 v0 v1 v2 w) (i : Nat) (hi : i < P.n) :
    Calls Try.prog 50 #[.agg #[v0, v1, v2], .int .i64 i] w fun e w' => ∃ b cap, e = .returned (.slice (some ⟨b, 0, none⟩) P.n cap) ∧ IntsAt w' (.slice (some ⟨b, 0, none⟩) P.n cap) (uP P i 1) ∧ Below w.heap.size w w' :=
  (unitRef_any hv w v0 v1 v2 (h0.below hD.below) i hi).mono fun e w' ⟨v, he, hx⟩ => by
    obtain ⟨b, cap, rfl, h1, h2⟩ := xsOut_intro hv (uP_NV hv (by omega) (fun h => by have := hv.ord2 i h; omega)) hx
    exact ⟨b, cap, he, h1, h2⟩
theorem prodRef_D {P : PcD} (hv : Valid P) {w0 w : World} {v0 v1 v2 xv yv : Value} {x y : List Int} (h0 : PcAt w0 v0 v1 v2 P) (hD : Bd w0 v0 v1 v2 w) (hxv : IntsAt w xv x) (hyv : IntsAt w yv y) (hx : NV P x) (hy : NV P y) :
    Calls Try.prog 49 #[.agg #[v0, v1, v2], xv, yv] w fun e w' => ∃ b cap, e = .returned (.slice (some ⟨b, 0, none⟩) P.n cap) ∧ IntsAt w' (.slice (some ⟨b, 0, none⟩) P.n cap) (mulP P x y) ∧ Below w.heap.size w w' :=
  (product_any hv w v0 v1 v2 xv yv x y (h0.below hD.below) hxv hyv hx hy).mono fun e w' ⟨v, he, hxo⟩ => by
    obtain ⟨b, cap, rfl, h1, h2⟩ := xsOut_intro hv (mulP_NV hv hx) hxo
    exact ⟨b, cap, he, h1, h2⟩
theorem equalRef_yes {w : World} {va vb : Value} {x y : List Int} (ha : IntsAt w va x) (hb : IntsAt w vb y) (hl : x.length = y.length) (h : x = y) :
    Calls Try.prog 51 #[va, vb] w fun e w' => e = .returned (.bool true) ∧ Below w.heap.size w w' := (equalRef_any w va vb x y ha hb hl).mono fun _ _ ⟨he, q, hw⟩ => ⟨by rw [he]; simp [h], hw ▸ below_drewN (Below.refl _ _) q⟩
theorem equalRef_no {w : World} {va vb : Value} {x y : List Int} (ha : IntsAt w va x) (hb : IntsAt w vb y) (hl : x.length = y.length) (h : x ≠ y) :
    Calls Try.prog 51 #[va, vb] w fun e w' => e = .returned (.bool false) ∧ Below w.heap.size w w' := (equalRef_any w va vb x y ha hb hl).mono fun _ _ ⟨he, q, hw⟩ => ⟨by rw [he]; simp [h], hw ▸ below_drewN (Below.refl _ _) q⟩


set_option maxRecDepth 100000 in
set_option maxHeartbeats 16000000 in
theorem consRef_good {P : PcD} (hv : Valid P) (w : World) (v0 v1 v2 : Value) (hP : PcAt w v0 v1 v2 P) (HC : ∀ w' : World, Below w.heap.size w w' → Calls Try.prog 24 #[.agg #[v0, v1, v2]] w' fun e w'' => e = .returned (.tuple #[.int .i64 0, .int .i64 0]) ∧ Below w'.heap.size w' w'') :
    Calls Try.prog 15 #[.agg #[v0, v1, v2]] w fun e w' => e = .returned (.tuple #[.bool (consB P), .int .i64 0]) ∧ Below w.heap.size w w' := by
  have h12 := hv.n12
  have HCk := Lib.hid HC
  have hnu : ∀ {q : Nat}, q < P.n → NV P (uP P q 1) := fun {q} hq => uP_NV hv (by omega) (fun h => by have := hv.ord2 q h; omega)
  have hnp : ∀ {q : Nat}, q < P.n → NV P (P.pow q) := fun {q} hq => norm_NV (hv.pow q hq)
  obtain ⟨⟨A0, c0, rfl⟩, ⟨A1, c1, rfl⟩, A2, c2, rfl⟩ := pc_slices hP
  have HP := Lib.hid hP
  have hD0 : Bd w (.slice A0 P.orders.length c0) (.slice A1 P.powers.length c1) (.slice A2 P.conj.length c2) (w.alloc (.cells #[.slice A0 P.orders.length c0, .slice A1 P.powers.length c1, .slice A2 P.conj.length c2] 26)) := ⟨(Below.refl _ _).alloc (Nat.le_refl _) _, heap_alloc_new w _⟩
  have HD := Lib.hid hD0
  have HN := Lib.hid (show P.orders.length = P.n from rfl)
  have HMK := Lib.hid (fun W : World => make22 W P.orders.length (by have : P.n = P.orders.length := rfl; omega))
  clear hP HC hD0
  go_enter Try.func15, Try.ntmps15
  go_wp2_with ((go_at_call 24; (refine (HCk.out _ HD.out.below).mono ?_); rintro e w1 ⟨rfl, hb1⟩; have HD := Lib.hid (HD.out.step hb1); have k0 := HD.out.c0; clear hb1))
  go_loopw [7] (fun s wr => ∃ i : Nat, i ≤ P.n ∧ s = .int .i64 i ∧ AllEq (ovI P i) ∧ Bd w (.slice A0 P.orders.length c0) (.slice A1 P.powers.length c1) (.slice A2 P.conj.length c2) wr) (fun s _ => P.n - (intOf s).toNat)
  case atStart => exact ⟨0, Nat.zero_le _, rfl, fun p hp => by simp [ovI, foldTo] at hp, HD.out⟩
  case round =>
    clear k0
    obtain ⟨i, hi, rfl, heq, hD⟩ := hrel
    have HEQ := Lib.hid heq
    have HD := Lib.hid hD
    clear heq hD
    by_cases hlt : i < P.n
    · have hlto : (i : Int) < (P.orders.length : Int) := by rw [HN.out]; omega
      have hltp : (i : Int) < (P.powers.length : Int) := by rw [hv.npow]; omega
      have hi0 : (0 : Int) ≤ (i : Int) := Int.natCast_nonneg _
      have hoi := hv.ord2 i hlt
      obtain ⟨b1, o1, u1, rfl, hcu0, hIu0⟩ := pow_cell hv HP.out hlt
      obtain ⟨bo, oo, rfl, hoi0⟩ := ord_cell HP.out hlt
      have HIU0 := Lib.hid hIu0
      have HCU0 := Lib.hid hcu0
      have HOI0 := Lib.hid hoi0
      clear hIu0 hcu0 hoi0
      have HU := Lib.hid (HIU0.out.below HD.out.below)
      have hcu := (KC.of_below HD.out.below).cell HCU0.out
      go_wp2_with fail
      have HS : Hid (∀ w' : World, Below wr.heap.size wr w' → (w'.cell? ⟨w.heap.size, 0, none⟩ = some (.slice (some ⟨bo, oo, none⟩) P.orders.length c0) ∧ w'.cell? ⟨w.heap.size, 1, none⟩ = some (.slice (some ⟨b1, o1, none⟩) P.powers.length c1) ∧ w'.cell? ⟨w.heap.size, 2, none⟩ = some (.slice A2 P.conj.length c2) ∧ w'.cell? ⟨b1, o1 + i, none⟩ = some u1)) := Lib.hid (fun w' hb => ⟨(HD.out.step hb).c0, (HD.out.step hb).c1, (HD.out.step hb).c2, (KC.of_below hb).cell hcu⟩)
      have HW := Lib.hid ((Below.refl wr.heap.size wr).drew)
      have HD := Lib.hid (HD.out.step HW.out)
      have HU := Lib.hid (HU.out.below HW.out)
      have tok0 : True := trivial
      have tok1 : True := trivial
      have tok2 : True := trivial
      have tok3 : True := trivial
      go_region_held3 (fun w' => w'.cell? ⟨w.heap.size, 0, none⟩ = some (.slice (some ⟨bo, oo, none⟩) P.orders.length c0) ∧ w'.cell? ⟨w.heap.size, 1, none⟩ = some (.slice (some ⟨b1, o1, none⟩) P.powers.length c1) ∧ w'.cell? ⟨w.heap.size, 2, none⟩ = some (.slice A2 P.conj.length c2) ∧ w'.cell? ⟨b1, o1 + i, none⟩ = some u1) (first | exact HS.out _ HW.out | exact HS.out _ (Below.refl _ _))
        (first
        | (go_at_call 50; have _t := tok0; (refine (unitRef_D hv HP.out HD.out i hlt).mono ?_); rintro e w1 ⟨bb1, cc1, rfl, hi1, hb1⟩; have HW := Lib.hid (HW.out.trans (hb1.mono HW.out.size)); have HD := Lib.hid (HD.out.step hb1); have HU := Lib.hid (HU.out.below hb1); have HE1 := Lib.hid hi1; clear hi1 hb1 tok0 _t)
        | (go_at_call 49; have _t := tok1; (refine (prodRef_D hv HP.out HD.out HU.out HE1.out (hnp hlt) (hnu hlt)).mono ?_); rintro e w2 ⟨bb2, cc2, rfl, hi2, hb2⟩; have HW := Lib.hid (HW.out.trans (hb2.mono HW.out.size)); have HD := Lib.hid (HD.out.step hb2); have HU := Lib.hid (HU.out.below hb2); have HE1 := Lib.hid (HE1.out.below hb2); have HA := Lib.hid hi2; clear hi2 hb2 tok1 _t)
        | (go_at_call 50; have _t := tok2; (refine (unitRef_D hv HP.out HD.out i hlt).mono ?_); rintro e w3 ⟨bb3, cc3, rfl, hi3, hb3⟩; have HW := Lib.hid (HW.out.trans (hb3.mono HW.out.size)); have HD := Lib.hid (HD.out.step hb3); have HU := Lib.hid (HU.out.below hb3); have HE1 := Lib.hid (HE1.out.below hb3); have HA := Lib.hid (HA.out.below hb3); have HE2 := Lib.hid hi3; clear hi3 hb3 tok2 _t)
        | (go_at_call 49; have _t := tok3; (refine (prodRef_D hv HP.out HD.out HE2.out HU.out (hnu hlt) (hnp hlt)).mono ?_); rintro e w4 ⟨bb4, cc4, rfl, hi4, hb4⟩; have HW := Lib.hid (HW.out.trans (hb4.mono HW.out.size)); have HD := Lib.hid (HD.out.step hb4); have HU := Lib.hid (HU.out.below hb4); have HE1 := Lib.hid (HE1.out.below hb4); have HA := Lib.hid (HA.out.below hb4); have HE2 := Lib.hid (HE2.out.below hb4); have HB := Lib.hid hi4; clear hi4 hb4 tok3 _t)
        )
      clear HS HW
      clear hcu
      by_cases hE : mulP P (P.pow i) (uP P i 1) = mulP P (uP P i 1) (P.pow i)
      · have HE := Lib.hid hE
        clear hE
        go_wp2_with ((go_at_call 51; (refine (equalRef_yes HA.out HB.out (by rw [(mulP_NV hv (hnp hlt)).1, (mulP_NV hv (hnu hlt)).1]) HE.out).mono ?_); rintro e we ⟨rfl, hbe⟩; have HD := Lib.hid (HD.out.step hbe); clear hbe))
        clear HU HE1 HE2 HA HB
        go_loopw [10] (fun s wr => ∃ j : Nat, i + 1 ≤ j ∧ j ≤ P.n ∧ s = .int .i64 j ∧ AllEq (LJ P i j) ∧ Bd w (.slice (some ⟨bo, oo, none⟩) P.orders.length c0) (.slice (some ⟨b1, o1, none⟩) P.powers.length c1) (.slice A2 P.conj.length c2) wr) (fun s _ => P.n - (intOf s).toNat)
        case atStart => exact ⟨i + 1, Nat.le_refl _, by omega, by go_num, by rw [LJ_start]; exact HEQ.out.snoc HE.out, HD.out⟩
        case round =>
          obtain ⟨j, hij, hj, rfl, heqj, hD⟩ := hrel
          have HEQJ := Lib.hid heqj
          have HD := Lib.hid hD
          clear heqj hD
          by_cases hjl : j < P.n
          · have hjo : (j : Int) < (P.orders.length : Int) := by rw [HN.out]; omega
            have hjp : (j : Int) < (P.powers.length : Int) := by rw [hv.npow]; omega
            have hj0 : (0 : Int) ≤ (j : Int) := Int.natCast_nonneg _
            have hoj := hv.ord2 j hjl
            obtain ⟨b1', o1', u2, e1', hcv0, hIv0⟩ := pow_cell hv HP.out hjl
            obtain ⟨bo', oo', e2', hoj0⟩ := ord_cell HP.out hjl
            cases e1'
            cases e2'
            have HIV0 := Lib.hid hIv0
            have HCV0 := Lib.hid hcv0
            have HOJ0 := Lib.hid hoj0
            clear hIv0 hcv0 hoj0
            go_wp2_with fail
            have HS : Hid (∀ w' : World, Below wr.heap.size wr w' → (w'.cell? ⟨w.heap.size, 0, none⟩ = some (.slice (some ⟨bo, oo, none⟩) P.orders.length c0) ∧ w'.cell? ⟨w.heap.size, 1, none⟩ = some (.slice (some ⟨b1, o1, none⟩) P.powers.length c1) ∧ w'.cell? ⟨w.heap.size, 2, none⟩ = some (.slice A2 P.conj.length c2))) := Lib.hid (fun w' hb => ⟨(HD.out.step hb).c0, (HD.out.step hb).c1, (HD.out.step hb).c2⟩)
            have HW := Lib.hid ((Below.refl wr.heap.size wr).drew)
            have HD := Lib.hid (HD.out.step HW.out)
            have tok0 : True := trivial
            have tok1 : True := trivial
            have tok2 : True := trivial
            go_region_held3 (fun w' => w'.cell? ⟨w.heap.size, 0, none⟩ = some (.slice (some ⟨bo, oo, none⟩) P.orders.length c0) ∧ w'.cell? ⟨w.heap.size, 1, none⟩ = some (.slice (some ⟨b1, o1, none⟩) P.powers.length c1) ∧ w'.cell? ⟨w.heap.size, 2, none⟩ = some (.slice A2 P.conj.length c2)) (first | exact HS.out _ HW.out | exact HS.out _ (Below.refl _ _))
              (first
              | (go_at_call 50; have _t := tok0; (refine (unitRef_D hv HP.out HD.out j hjl).mono ?_); rintro e w5 ⟨bb5, cc5, rfl, hi5, hb5⟩; have HW := Lib.hid (HW.out.trans (hb5.mono HW.out.size)); have HD := Lib.hid (HD.out.step hb5); have HEj := Lib.hid hi5; clear hi5 hb5 tok0 _t)
              | (go_at_call 50; have _t := tok1; (refine (unitRef_D hv HP.out HD.out i hlt).mono ?_); rintro e w6 ⟨bb6, cc6, rfl, hi6, hb6⟩; have HW := Lib.hid (HW.out.trans (hb6.mono HW.out.size)); have HD := Lib.hid (HD.out.step hb6); have HEj := Lib.hid (HEj.out.below hb6); have HEi := Lib.hid hi6; clear hi6 hb6 tok1 _t)
              | (go_at_call 49; have _t := tok2; (refine (prodRef_D hv HP.out HD.out HEj.out HEi.out (hnu hjl) (hnu hlt)).mono ?_); rintro e w7 ⟨bb7, cc7, rfl, hi7, hb7⟩; have HW := Lib.hid (HW.out.trans (hb7.mono HW.out.size)); have HD := Lib.hid (HD.out.step hb7); have HEj := Lib.hid (HEj.out.below hb7); have HEi := Lib.hid (HEi.out.below hb7); have HJI := Lib.hid hi7; clear hi7 hb7 tok2 _t)
              )
            clear HS HW
            clear HEj HEi
            have HV := Lib.hid (HIV0.out.below HD.out.below)
            have hcv := (KC.of_below HD.out.below).cell HCV0.out
            go_wp2_with fail
            have HS : Hid (∀ w' : World, Below w7.heap.size w7 w' → (w'.cell? ⟨w.heap.size, 0, none⟩ = some (.slice (some ⟨bo, oo, none⟩) P.orders.length c0) ∧ w'.cell? ⟨w.heap.size, 1, none⟩ = some (.slice (some ⟨b1, o1, none⟩) P.powers.length c1) ∧ w'.cell? ⟨w.heap.size, 2, none⟩ = some (.slice A2 P.conj.length c2) ∧ w'.cell? ⟨b1, o1 + j, none⟩ = some u2)) := Lib.hid (fun w' hb => ⟨(HD.out.step hb).c0, (HD.out.step hb).c1, (HD.out.step hb).c2, (KC.of_below hb).cell hcv⟩)
            have HW := Lib.hid ((Below.refl w7.heap.size w7).drew)
            have HD := Lib.hid (HD.out.step HW.out)
            have HJI := Lib.hid (HJI.out.below HW.out)
            have HV := Lib.hid (HV.out.below HW.out)
            have tok0 : True := trivial
            have tok1 : True := trivial
            go_region_held3 (fun w' => w'.cell? ⟨w.heap.size, 0, none⟩ = some (.slice (some ⟨bo, oo, none⟩) P.orders.length c0) ∧ w'.cell? ⟨w.heap.size, 1, none⟩ = some (.slice (some ⟨b1, o1, none⟩) P.powers.length c1) ∧ w'.cell? ⟨w.heap.size, 2, none⟩ = some (.slice A2 P.conj.length c2) ∧ w'.cell? ⟨b1, o1 + j, none⟩ = some u2) (first | exact HS.out _ HW.out | exact HS.out _ (Below.refl _ _))
              (first
              | (go_at_call 50; have _t := tok0; (refine (unitRef_D hv HP.out HD.out i hlt).mono ?_); rintro e w8 ⟨bb8, cc8, rfl, hi8, hb8⟩; have HW := Lib.hid (HW.out.trans (hb8.mono HW.out.size)); have HD := Lib.hid (HD.out.step hb8); have HJI := Lib.hid (HJI.out.below hb8); have HV := Lib.hid (HV.out.below hb8); have HEi2 := Lib.hid hi8; clear hi8 hb8 tok0 _t)
              | (go_at_call 49; have _t := tok1; (refine (prodRef_D hv HP.out HD.out HV.out HEi2.out (hnp hjl) (hnu hlt)).mono ?_); rintro e w9 ⟨bb9, cc9, rfl, hi9, hb9⟩; have HW := Lib.hid (HW.out.trans (hb9.mono HW.out.size)); have HD := Lib.hid (HD.out.step hb9); have HJI := Lib.hid (HJI.out.below hb9); have HV := Lib.hid (HV.out.below hb9); have HEi2 := Lib.hid (HEi2.out.below hb9); have HA := Lib.hid hi9; clear hi9 hb9 tok1 _t)
              )
            clear HS HW
            clear hcv HV HEi2
            have hmk := HMK.out w9
            have hz := xsAt_zero w9 P.orders.length
            have hbz : Below w9.heap.size w9 (w9.alloc (.cells (Array.replicate P.orders.length (.int .i64 0)) 3)) := (Below.refl _ _).alloc (Nat.le_refl _) _
            have hdz := HD.out.step hbz
            have hltz : w.heap.size < w9.heap.size := (Array.getElem?_eq_some_iff.1 HD.out.box).1
            generalize w9.alloc (.cells (Array.replicate P.orders.length (.int .i64 0)) 3) = Wz at *
            have hcz := hz.cell (k := j) (by rw [List.length_replicate]; exact hjl)
            have hfz := hz.frozen j
            have hk0 := hdz.c0
            have hco := (KC.of_below hdz.below).cell HOJ0.out
            have hxm := xsAt_unit (P := P) (e := P.ord j - 1) hz hjl
            have hbm : Below w9.heap.size w9 (Wz.setCell ⟨w9.heap.size, j, none⟩ (.int .i64 (P.ord j - 1))) := hbz.setCell (p := ⟨w9.heap.size, j, none⟩) (Nat.le_refl _) _
            have HDm := Lib.hid (HD.out.step hbm)
            have HJIm := Lib.hid (HJI.out.below hbm)
            have HAm := Lib.hid (HA.out.below hbm)
            have hnm : NV P (uP P j (P.ord j - 1)) := uP_NV hv (by omega) (fun h => by omega)
            have HMOST := Lib.hid (hxm.ints (n := P.orders.length) (cap := P.orders.length) hnm.1 (Nat.le_refl _) (by have : P.n = P.orders.length := rfl; omega) (Pc.NV.fits hv hnm))
            clear hz hbz hdz hxm hbm HD HJI HA
            generalize hoe : P.ord j = oj at *
            by_cases hE2 : mulP P (P.pow j) (uP P i 1) = mulP P (uP P j (oj - 1)) (mulP P (uP P j 1) (uP P i 1))
            · skip
              have HE2 := Lib.hid hE2
              clear hE2
              go_wp2_with (first
                | ((with_reducible refine wpList_sel 92 ?_); refine wpList_val rfl (r_load26 (.tmp 1) w.heap.size _ _ _ rfl rfl HDm.out.box) ?_)
                | (go_at_call 49; (refine (prodRef_D hv HP.out HDm.out HMOST.out HJIm.out hnm (mulP_NV hv (hnu hjl))).mono ?_); rintro e wp ⟨bp, cp, rfl, hip, hbp⟩; have HD := Lib.hid (HDm.out.step hbp); have HJI := Lib.hid (HJIm.out.below hbp); have HA := Lib.hid (HAm.out.below hbp); have HB := Lib.hid hip; clear hip hbp)
                | (go_at_call 51; (refine (equalRef_yes HA.out HB.out (by rw [(mulP_NV hv (hnp hjl)).1, (mulP_NV hv hnm).1]) HE2.out).mono ?_); rintro e we2 ⟨rfl, hbe⟩; have HD := Lib.hid (HD.out.step hbe); have HJI := Lib.hid (HJI.out.below hbe); clear hbe)
                | ((with_reducible refine wpList_sel 98 ?_); refine wpList_val rfl (r_load26 (.tmp 1) w.heap.size _ _ _ rfl rfl HD.out.box) ?_)
                | (go_at_call 50; (refine (unitRef_any hv _ _ _ _ (HP.out.below HD.out.below) j hjl).mono ?_); rintro e wa ⟨v, rfl, ba, capa, rfl, hXa, hgea, hca, hma, hba⟩; have HXA := Lib.hid hXa; have HBA := Lib.hid hba; clear hXa hba))
              have hwba : w.heap.size ≤ ba := Nat.le_trans (Nat.le_of_lt (Array.getElem?_eq_some_iff.1 HD.out.box).1) hgea
              obtain ⟨oi', hoi'⟩ := Int.eq_ofNat_of_zero_le (show 0 ≤ P.ord i by omega)
              have HOI := Lib.hid hoi'
              have hoi1 : oi' ≤ 1000 := by omega
              have hcapn : (P.n : Int) ≤ (capa : Int) := by omega
              clear hoi'
              go_loopw [13] (fun s wr => ∃ m : Nat, m ≤ oi' ∧ s = .int .i64 m ∧ XsAt wr ba (iter (timesF P P.n i) m (uP P j 1)) ∧ Below we2.heap.size we2 wr) (fun s _ => oi' - (intOf s).toNat)
              case atStart => exact ⟨0, Nat.zero_le _, rfl, HXA.out, HBA.out⟩
              case round =>
                obtain ⟨m, hm, rfl, hXm, hbm⟩ := hrel
                have HXM := Lib.hid hXm
                have HBM := Lib.hid hbm
                have HDm' := Lib.hid (HD.out.step hbm)
                have hk0 := HDm'.out.c0
                have hco : wr.cell? ⟨bo, oo + i, none⟩ = some (.int .i64 (oi' : Int)) := by rw [← HOI.out]; exact (KC.of_below HDm'.out.below).cell HOI0.out
                clear hXm hbm
                by_cases hml : m < oi'
                · have HNM := Lib.hid (iter_inv (p := NV P) (f := timesF P P.n i) (fun z hz => timesF_NV hv _ i z hlt hz) m _ (hnu hjl))
                  go_wp2_with (first
                    | ((with_reducible refine wpList_sel 110 ?_); refine wpList_val rfl (r_load26 (.tmp 1) w.heap.size _ _ _ rfl rfl HDm'.out.box) ?_)
                    | (go_at_call 52; (refine (rtimes_ok hv P.n _ w.heap.size ba capa _ _ _ _ i (HP.out.pcB.below HDm'.out.below (Nat.le_refl _)) hwba HXM.out hca hma HNM.out hlt (by omega)).mono ?_); rintro e w8 ⟨rfl, hx8, hg8⟩; have HX8 := Lib.hid hx8; have HB8 := Lib.hid (HBM.out.grown hg8 HBM.out.size (fun k e => by cases e; exact hgea)); clear hx8 hg8))
                  go_roundw
                  case rel => exact ⟨m + 1, by omega, by go_num, HX8.out, HB8.out⟩
                  case measure => simp [intOf]; omega
                · obtain rfl : m = oi' := by omega
                  have HD := HDm'
                  have HJI := Lib.hid (HJI.out.below HBM.out)
                  have hnt : NV P (iter (timesF P P.n i) m (uP P j 1)) := iter_inv (p := NV P) (f := timesF P P.n i) (fun z hz => timesF_NV hv _ i z hlt hz) m _ (hnu hjl)
                  have HT := Lib.hid (HXM.out.ints hnt.1 hca hma (Pc.NV.fits hv hnt))
                  have HU := Lib.hid (HIU0.out.below HD.out.below)
                  have hcu := (KC.of_below HD.out.below).cell HCU0.out
                  clear HDm' HXM
                  by_cases hE3 : iter (timesF P P.n i) m (uP P j 1) = mulP P (uP P j 1) (P.pow i)
                  · have HE3 := Lib.hid hE3
                    clear hE3
                    go_wp2_with fail
                    have HS : Hid (∀ w' : World, Below wr.heap.size wr w' → (w'.cell? ⟨w.heap.size, 0, none⟩ = some (.slice (some ⟨bo, oo, none⟩) P.orders.length c0) ∧ w'.cell? ⟨w.heap.size, 1, none⟩ = some (.slice (some ⟨b1, o1, none⟩) P.powers.length c1) ∧ w'.cell? ⟨w.heap.size, 2, none⟩ = some (.slice A2 P.conj.length c2) ∧ w'.cell? ⟨b1, o1 + i, none⟩ = some u1)) := Lib.hid (fun w' hb => ⟨(HD.out.step hb).c0, (HD.out.step hb).c1, (HD.out.step hb).c2, (KC.of_below hb).cell hcu⟩)
                    have HW := Lib.hid ((Below.refl wr.heap.size wr).drew)
                    have HD := Lib.hid (HD.out.step HW.out)
                    have HJI := Lib.hid (HJI.out.below HW.out)
                    have HT := Lib.hid (HT.out.below HW.out)
                    have HU := Lib.hid (HU.out.below HW.out)
                    have tok0 : True := trivial
                    have tok1 : True := trivial
                    go_region_held3 (fun w' => w'.cell? ⟨w.heap.size, 0, none⟩ = some (.slice (some ⟨bo, oo, none⟩) P.orders.length c0) ∧ w'.cell? ⟨w.heap.size, 1, none⟩ = some (.slice (some ⟨b1, o1, none⟩) P.powers.length c1) ∧ w'.cell? ⟨w.heap.size, 2, none⟩ = some (.slice A2 P.conj.length c2) ∧ w'.cell? ⟨b1, o1 + i, none⟩ = some u1) (first | exact HS.out _ HW.out | exact HS.out _ (Below.refl _ _))
                      (first
                      | (go_at_call 50; have _t := tok0; (refine (unitRef_D hv HP.out HD.out j hjl).mono ?_); rintro e w10 ⟨bb10, cc10, rfl, hi10, hb10⟩; have HW := Lib.hid (HW.out.trans (hb10.mono HW.out.size)); have HD := Lib.hid (HD.out.step hb10); have HJI := Lib.hid (HJI.out.below hb10); have HT := Lib.hid (HT.out.below hb10); have HU := Lib.hid (HU.out.below hb10); have HEj3 := Lib.hid hi10; clear hi10 hb10 tok0 _t)
                      | (go_at_call 49; have _t := tok1; (refine (prodRef_D hv HP.out HD.out HEj3.out HU.out (hnu hjl) (hnp hlt)).mono ?_); rintro e w11 ⟨bb11, cc11, rfl, hi11, hb11⟩; have HW := Lib.hid (HW.out.trans (hb11.mono HW.out.size)); have HD := Lib.hid (HD.out.step hb11); have HJI := Lib.hid (HJI.out.below hb11); have HT := Lib.hid (HT.out.below hb11); have HU := Lib.hid (HU.out.below hb11); have HEj3 := Lib.hid (HEj3.out.below hb11); have HB3 := Lib.hid hi11; clear hi11 hb11 tok1 _t)
                      | (go_at_call 51; (refine (equalRef_yes HT.out HB3.out (by rw [hnt.1, (mulP_NV hv (hnu hjl)).1]) HE3.out).mono ?_); rintro e we ⟨rfl, hbe⟩; have HW := Lib.hid (HW.out.trans (hbe.mono HW.out.size)); have HD := Lib.hid (HD.out.step hbe); have HJI := Lib.hid (HJI.out.below hbe); have HT := Lib.hid (HT.out.below hbe); have HU := Lib.hid (HU.out.below hbe); have HEj3 := Lib.hid (HEj3.out.below hbe); have HB3 := Lib.hid (HB3.out.below hbe); clear hbe)
                      )
                    clear HS HW
                    clear HU HT HEj3 HB3 hcu hk0 hco
                    go_wp2_with fail
                    have HJI9 := HJI
                    go_loopw [14] (fun s wr => ∃ k : Nat, j + 1 ≤ k ∧ k ≤ P.n ∧ s = .int .i64 k ∧ AllEq (LK P i j k) ∧ Bd w (.slice (some ⟨bo, oo, none⟩) P.orders.length c0) (.slice (some ⟨b1, o1, none⟩) P.powers.length c1) (.slice A2 P.conj.length c2) wr ∧ IntsAt wr (.slice (some ⟨bb7, 0, none⟩) P.n cc7) (mulP P (uP P j 1) (uP P i 1))) (fun s _ => P.n - (intOf s).toNat)
                    case atStart => exact ⟨j + 1, Nat.le_refl _, by omega, by go_num, by rw [LK_start]; exact (HEQJ.out.snoc (by show mulP P (P.pow j) (uP P i 1) = mulP P (uP P j (P.ord j - 1)) (mulP P (uP P j 1) (uP P i 1)); rw [hoe]; exact HE2.out)).snoc (by show iter (timesF P P.n i) (P.ord i).toNat (uP P j 1) = mulP P (uP P j 1) (P.pow i); rw [HOI.out, Int.toNat_natCast]; exact HE3.out), HD.out, HJI.out⟩
                    case round =>
                      obtain ⟨k, hjk, hk, rfl, heqk, hD, hJI⟩ := hrel
                      have HEQK := Lib.hid heqk
                      have HD := Lib.hid hD
                      have HJI := Lib.hid hJI
                      clear heqk hD hJI
                      by_cases hkl : k < P.n
                      · have hk0 : (0 : Int) ≤ (k : Int) := Int.natCast_nonneg _
                        have hko : (k : Int) < (P.orders.length : Int) := by rw [HN.out]; omega
                        go_wp2_with fail
                        have HS : Hid (∀ w' : World, Below wr.heap.size wr w' → (w'.cell? ⟨w.heap.size, 0, none⟩ = some (.slice (some ⟨bo, oo, none⟩) P.orders.length c0) ∧ w'.cell? ⟨w.heap.size, 1, none⟩ = some (.slice (some ⟨b1, o1, none⟩) P.powers.length c1) ∧ w'.cell? ⟨w.heap.size, 2, none⟩ = some (.slice A2 P.conj.length c2))) := Lib.hid (fun w' hb => ⟨(HD.out.step hb).c0, (HD.out.step hb).c1, (HD.out.step hb).c2⟩)
                        have HW := Lib.hid ((Below.refl wr.heap.size wr).drew)
                        have HD := Lib.hid (HD.out.step HW.out)
                        have HJI := Lib.hid (HJI.out.below HW.out)
                        have tok0 : True := trivial
                        have tok1 : True := trivial
                        have tok2 : True := trivial
                        have tok3 : True := trivial
                        have tok4 : True := trivial
                        go_region_held3 (fun w' => w'.cell? ⟨w.heap.size, 0, none⟩ = some (.slice (some ⟨bo, oo, none⟩) P.orders.length c0) ∧ w'.cell? ⟨w.heap.size, 1, none⟩ = some (.slice (some ⟨b1, o1, none⟩) P.powers.length c1) ∧ w'.cell? ⟨w.heap.size, 2, none⟩ = some (.slice A2 P.conj.length c2)) (first | exact HS.out _ HW.out | exact HS.out _ (Below.refl _ _))
                          (first
                          | (go_at_call 50; have _t := tok0; (refine (unitRef_D hv HP.out HD.out k hkl).mono ?_); rintro e w12 ⟨bb12, cc12, rfl, hi12, hb12⟩; have HW := Lib.hid (HW.out.trans (hb12.mono HW.out.size)); have HD := Lib.hid (HD.out.step hb12); have HJI := Lib.hid (HJI.out.below hb12); have HK1 := Lib.hid hi12; clear hi12 hb12 tok0 _t)
                          | (go_at_call 50; have _t := tok1; (refine (unitRef_D hv HP.out HD.out j hjl).mono ?_); rintro e w13 ⟨bb13, cc13, rfl, hi13, hb13⟩; have HW := Lib.hid (HW.out.trans (hb13.mono HW.out.size)); have HD := Lib.hid (HD.out.step hb13); have HJI := Lib.hid (HJI.out.below hb13); have HK1 := Lib.hid (HK1.out.below hb13); have HJ1 := Lib.hid hi13; clear hi13 hb13 tok1 _t)
                          | (go_at_call 49; have _t := tok2; (refine (prodRef_D hv HP.out HD.out HK1.out HJ1.out (hnu hkl) (hnu hjl)).mono ?_); rintro e w14 ⟨bb14, cc14, rfl, hi14, hb14⟩; have HW := Lib.hid (HW.out.trans (hb14.mono HW.out.size)); have HD := Lib.hid (HD.out.step hb14); have HJI := Lib.hid (HJI.out.below hb14); have HK1 := Lib.hid (HK1.out.below hb14); have HJ1 := Lib.hid (HJ1.out.below hb14); have HKJ := Lib.hid hi14; clear hi14 hb14 tok2 _t)
                          | (go_at_call 50; have _t := tok3; (refine (unitRef_D hv HP.out HD.out i hlt).mono ?_); rintro e w15 ⟨bb15, cc15, rfl, hi15, hb15⟩; have HW := Lib.hid (HW.out.trans (hb15.mono HW.out.size)); have HD := Lib.hid (HD.out.step hb15); have HJI := Lib.hid (HJI.out.below hb15); have HK1 := Lib.hid (HK1.out.below hb15); have HJ1 := Lib.hid (HJ1.out.below hb15); have HKJ := Lib.hid (HKJ.out.below hb15); have HI1 := Lib.hid hi15; clear hi15 hb15 tok3 _t)
                          | (go_at_call 49; have _t := tok4; (refine (prodRef_D hv HP.out HD.out HKJ.out HI1.out (mulP_NV hv (hnu hkl)) (hnu hlt)).mono ?_); rintro e w16 ⟨bb16, cc16, rfl, hi16, hb16⟩; have HW := Lib.hid (HW.out.trans (hb16.mono HW.out.size)); have HD := Lib.hid (HD.out.step hb16); have HJI := Lib.hid (HJI.out.below hb16); have HK1 := Lib.hid (HK1.out.below hb16); have HJ1 := Lib.hid (HJ1.out.below hb16); have HKJ := Lib.hid (HKJ.out.below hb16); have HI1 := Lib.hid (HI1.out.below hb16); have HA4 := Lib.hid hi16; clear hi16 hb16 tok4 _t)
                          )
                        clear HS HW
                        clear HK1 HJ1 HKJ HI1
                        by_cases hE4 : mulP P (mulP P (uP P k 1) (uP P j 1)) (uP P i 1) = mulP P (uP P k 1) (mulP P (uP P j 1) (uP P i 1))
                        · have HE4 := Lib.hid hE4
                          clear hE4
                          go_wp2_with fail
                          have HS : Hid (∀ w' : World, Below w16.heap.size w16 w' → (w'.cell? ⟨w.heap.size, 0, none⟩ = some (.slice (some ⟨bo, oo, none⟩) P.orders.length c0) ∧ w'.cell? ⟨w.heap.size, 1, none⟩ = some (.slice (some ⟨b1, o1, none⟩) P.powers.length c1) ∧ w'.cell? ⟨w.heap.size, 2, none⟩ = some (.slice A2 P.conj.length c2))) := Lib.hid (fun w' hb => ⟨(HD.out.step hb).c0, (HD.out.step hb).c1, (HD.out.step hb).c2⟩)
                          have HW := Lib.hid ((Below.refl w16.heap.size w16).drew)
                          have HD := Lib.hid (HD.out.step HW.out)
                          have HJI := Lib.hid (HJI.out.below HW.out)
                          have HA4 := Lib.hid (HA4.out.below HW.out)
                          have tok0 : True := trivial
                          have tok1 : True := trivial
                          go_region_held3 (fun w' => w'.cell? ⟨w.heap.size, 0, none⟩ = some (.slice (some ⟨bo, oo, none⟩) P.orders.length c0) ∧ w'.cell? ⟨w.heap.size, 1, none⟩ = some (.slice (some ⟨b1, o1, none⟩) P.powers.length c1) ∧ w'.cell? ⟨w.heap.size, 2, none⟩ = some (.slice A2 P.conj.length c2)) (first | exact HS.out _ HW.out | exact HS.out _ (Below.refl _ _))
                            (first
                            | (go_at_call 50; have _t := tok0; (refine (unitRef_D hv HP.out HD.out k hkl).mono ?_); rintro e w17 ⟨bb17, cc17, rfl, hi17, hb17⟩; have HW := Lib.hid (HW.out.trans (hb17.mono HW.out.size)); have HD := Lib.hid (HD.out.step hb17); have HJI := Lib.hid (HJI.out.below hb17); have HA4 := Lib.hid (HA4.out.below hb17); have HK2 := Lib.hid hi17; clear hi17 hb17 tok0 _t)
                            | (go_at_call 49; have _t := tok1; (refine (prodRef_D hv HP.out HD.out HK2.out HJI.out (hnu hkl) (mulP_NV hv (hnu hjl))).mono ?_); rintro e w18 ⟨bb18, cc18, rfl, hi18, hb18⟩; have HW := Lib.hid (HW.out.trans (hb18.mono HW.out.size)); have HD := Lib.hid (HD.out.step hb18); have HJI := Lib.hid (HJI.out.below hb18); have HA4 := Lib.hid (HA4.out.below hb18); have HK2 := Lib.hid (HK2.out.below hb18); have HB4 := Lib.hid hi18; clear hi18 hb18 tok1 _t)
                            | (go_at_call 51; (refine (equalRef_yes HA4.out HB4.out (by rw [(mulP_NV hv (mulP_NV hv (hnu hkl))).1, (mulP_NV hv (hnu hkl)).1]) HE4.out).mono ?_); rintro e we ⟨rfl, hbe⟩; have HW := Lib.hid (HW.out.trans (hbe.mono HW.out.size)); have HD := Lib.hid (HD.out.step hbe); have HJI := Lib.hid (HJI.out.below hbe); have HA4 := Lib.hid (HA4.out.below hbe); have HK2 := Lib.hid (HK2.out.below hbe); have HB4 := Lib.hid (HB4.out.below hbe); clear hbe)
                            )
                          clear HS HW
                          go_wp2_with fail
                          go_roundw
                          case rel => exact ⟨k + 1, by omega, by omega, by go_num, by rw [LK_succ P hjk]; exact HEQK.out.snoc HE4.out, HD.out, HJI.out⟩
                          case measure => simp [intOf]; omega
                        · have HE4 := Lib.hid hE4
                          clear hE4
                          go_wp2_with fail
                          have HS : Hid (∀ w' : World, Below w16.heap.size w16 w' → (w'.cell? ⟨w.heap.size, 0, none⟩ = some (.slice (some ⟨bo, oo, none⟩) P.orders.length c0) ∧ w'.cell? ⟨w.heap.size, 1, none⟩ = some (.slice (some ⟨b1, o1, none⟩) P.powers.length c1) ∧ w'.cell? ⟨w.heap.size, 2, none⟩ = some (.slice A2 P.conj.length c2))) := Lib.hid (fun w' hb => ⟨(HD.out.step hb).c0, (HD.out.step hb).c1, (HD.out.step hb).c2⟩)
                          have HW := Lib.hid ((Below.refl w16.heap.size w16).drew)
                          have HD := Lib.hid (HD.out.step HW.out)
                          have HJI := Lib.hid (HJI.out.below HW.out)
                          have HA4 := Lib.hid (HA4.out.below HW.out)
                          have tok0 : True := trivial
                          have tok1 : True := trivial
                          go_region_held3 (fun w' => w'.cell? ⟨w.heap.size, 0, none⟩ = some (.slice (some ⟨bo, oo, none⟩) P.orders.length c0) ∧ w'.cell? ⟨w.heap.size, 1, none⟩ = some (.slice (some ⟨b1, o1, none⟩) P.powers.length c1) ∧ w'.cell? ⟨w.heap.size, 2, none⟩ = some (.slice A2 P.conj.length c2)) (first | exact HS.out _ HW.out | exact HS.out _ (Below.refl _ _))
                            (first
                            | (go_at_call 50; have _t := tok0; (refine (unitRef_D hv HP.out HD.out k hkl).mono ?_); rintro e w19 ⟨bb19, cc19, rfl, hi19, hb19⟩; have HW := Lib.hid (HW.out.trans (hb19.mono HW.out.size)); have HD := Lib.hid (HD.out.step hb19); have HJI := Lib.hid (HJI.out.below hb19); have HA4 := Lib.hid (HA4.out.below hb19); have HK2 := Lib.hid hi19; clear hi19 hb19 tok0 _t)
                            | (go_at_call 49; have _t := tok1; (refine (prodRef_D hv HP.out HD.out HK2.out HJI.out (hnu hkl) (mulP_NV hv (hnu hjl))).mono ?_); rintro e w20 ⟨bb20, cc20, rfl, hi20, hb20⟩; have HW := Lib.hid (HW.out.trans (hb20.mono HW.out.size)); have HD := Lib.hid (HD.out.step hb20); have HJI := Lib.hid (HJI.out.below hb20); have HA4 := Lib.hid (HA4.out.below hb20); have HK2 := Lib.hid (HK2.out.below hb20); have HB4 := Lib.hid hi20; clear hi20 hb20 tok1 _t)
                            | (go_at_call 51; (refine (equalRef_no HA4.out HB4.out (by rw [(mulP_NV hv (mulP_NV hv (hnu hkl))).1, (mulP_NV hv (hnu hkl)).1]) HE4.out).mono ?_); rintro e we ⟨rfl, hbe⟩; have HW := Lib.hid (HW.out.trans (hbe.mono HW.out.size)); have HD := Lib.hid (HD.out.step hbe); have HJI := Lib.hid (HJI.out.below hbe); have HA4 := Lib.hid (HA4.out.below hbe); have HK2 := Lib.hid (HK2.out.below hbe); have HB4 := Lib.hid (HB4.out.below hbe); clear hbe)
                            )
                          clear HS HW
                          go_wp2_with fail
                          go_ret2
                          exact ⟨by first | (rw [consB_false hv (pre_3 P hlt hij hjl hjk hkl) HE4.out]; done) | (rw [consB_false hv (pre_3 P hlt hij hjl hjk hkl) HE4.out]; rfl), HD.out.below⟩
                      · obtain rfl : k = P.n := by omega
                        go_wp2_with fail
                        go_roundw
                        case rel => exact ⟨j + 1, by omega, by omega, by go_num, by rw [← LK_end P hij]; exact HEQK.out, HD.out⟩
                        case measure => simp [intOf]; omega
                  · have HE3 := Lib.hid hE3
                    clear hE3
                    go_wp2_with fail
                    have HS : Hid (∀ w' : World, Below wr.heap.size wr w' → (w'.cell? ⟨w.heap.size, 0, none⟩ = some (.slice (some ⟨bo, oo, none⟩) P.orders.length c0) ∧ w'.cell? ⟨w.heap.size, 1, none⟩ = some (.slice (some ⟨b1, o1, none⟩) P.powers.length c1) ∧ w'.cell? ⟨w.heap.size, 2, none⟩ = some (.slice A2 P.conj.length c2) ∧ w'.cell? ⟨b1, o1 + i, none⟩ = some u1)) := Lib.hid (fun w' hb => ⟨(HD.out.step hb).c0, (HD.out.step hb).c1, (HD.out.step hb).c2, (KC.of_below hb).cell hcu⟩)
                    have HW := Lib.hid ((Below.refl wr.heap.size wr).drew)
                    have HD := Lib.hid (HD.out.step HW.out)
                    have HJI := Lib.hid (HJI.out.below HW.out)
                    have HT := Lib.hid (HT.out.below HW.out)
                    have HU := Lib.hid (HU.out.below HW.out)
                    have tok0 : True := trivial
                    have tok1 : True := trivial
                    go_region_held3 (fun w' => w'.cell? ⟨w.heap.size, 0, none⟩ = some (.slice (some ⟨bo, oo, none⟩) P.orders.length c0) ∧ w'.cell? ⟨w.heap.size, 1, none⟩ = some (.slice (some ⟨b1, o1, none⟩) P.powers.length c1) ∧ w'.cell? ⟨w.heap.size, 2, none⟩ = some (.slice A2 P.conj.length c2) ∧ w'.cell? ⟨b1, o1 + i, none⟩ = some u1) (first | exact HS.out _ HW.out | exact HS.out _ (Below.refl _ _))
                      (first
                      | (go_at_call 50; have _t := tok0; (refine (unitRef_D hv HP.out HD.out j hjl).mono ?_); rintro e w21 ⟨bb21, cc21, rfl, hi21, hb21⟩; have HW := Lib.hid (HW.out.trans (hb21.mono HW.out.size)); have HD := Lib.hid (HD.out.step hb21); have HJI := Lib.hid (HJI.out.below hb21); have HT := Lib.hid (HT.out.below hb21); have HU := Lib.hid (HU.out.below hb21); have HEj3 := Lib.hid hi21; clear hi21 hb21 tok0 _t)
                      | (go_at_call 49; have _t := tok1; (refine (prodRef_D hv HP.out HD.out HEj3.out HU.out (hnu hjl) (hnp hlt)).mono ?_); rintro e w22 ⟨bb22, cc22, rfl, hi22, hb22⟩; have HW := Lib.hid (HW.out.trans (hb22.mono HW.out.size)); have HD := Lib.hid (HD.out.step hb22); have HJI := Lib.hid (HJI.out.below hb22); have HT := Lib.hid (HT.out.below hb22); have HU := Lib.hid (HU.out.below hb22); have HEj3 := Lib.hid (HEj3.out.below hb22); have HB3 := Lib.hid hi22; clear hi22 hb22 tok1 _t)
                      | (go_at_call 51; (refine (equalRef_no HT.out HB3.out (by rw [hnt.1, (mulP_NV hv (hnu hjl)).1]) HE3.out).mono ?_); rintro e we ⟨rfl, hbe⟩; have HW := Lib.hid (HW.out.trans (hbe.mono HW.out.size)); have HD := Lib.hid (HD.out.step hbe); have HJI := Lib.hid (HJI.out.below hbe); have HT := Lib.hid (HT.out.below hbe); have HU := Lib.hid (HU.out.below hbe); have HEj3 := Lib.hid (HEj3.out.below hbe); have HB3 := Lib.hid (HB3.out.below hbe); clear hbe)
                      )
                    clear HS HW
                    go_wp2_with fail
                    go_ret2
                    exact ⟨by have e := consB_false hv (pre_2 P hlt hij hjl) (by show iter (timesF P P.n i) (P.ord i).toNat (uP P j 1) ≠ mulP P (uP P j 1) (P.pow i); rw [HOI.out, Int.toNat_natCast]; exact HE3.out); first | (rw [e]; done) | (rw [e]; rfl), HD.out.below⟩
            · skip
              have HE2 := Lib.hid hE2
              clear hE2
              go_wp2_with (first
                | ((with_reducible refine wpList_sel 92 ?_); refine wpList_val rfl (r_load26 (.tmp 1) w.heap.size _ _ _ rfl rfl HDm.out.box) ?_)
                | (go_at_call 49; (refine (prodRef_D hv HP.out HDm.out HMOST.out HJIm.out hnm (mulP_NV hv (hnu hjl))).mono ?_); rintro e wp ⟨bp, cp, rfl, hip, hbp⟩; have HD := Lib.hid (HDm.out.step hbp); have HJI := Lib.hid (HJIm.out.below hbp); have HA := Lib.hid (HAm.out.below hbp); have HB := Lib.hid hip; clear hip hbp)
                | (go_at_call 51; (refine (equalRef_no HA.out HB.out (by rw [(mulP_NV hv (hnp hjl)).1, (mulP_NV hv hnm).1]) HE2.out).mono ?_); rintro e we2 ⟨rfl, hbe⟩; have HD := Lib.hid (HD.out.step hbe); have HJI := Lib.hid (HJI.out.below hbe); clear hbe))
              go_ret2
              exact ⟨by have e := consB_false hv (pre_1 P hlt hij hjl) (by show mulP P (P.pow j) (uP P i 1) ≠ mulP P (uP P j (P.ord j - 1)) (mulP P (uP P j 1) (uP P i 1)); rw [hoe]; exact HE2.out); first | (rw [e]; done) | (rw [e]; rfl), HD.out.below⟩
          · obtain rfl : j = P.n := by omega
            go_wp2_with fail
            go_roundw
            case rel => exact ⟨i + 1, by omega, by go_num, by rw [← LJ_end]; exact HEQJ.out, HD.out⟩
            case measure => simp [intOf]; omega
      · have HE := Lib.hid hE
        clear hE
        go_wp2_with ((go_at_call 51; (refine (equalRef_no HA.out HB.out (by rw [(mulP_NV hv (hnp hlt)).1, (mulP_NV hv (hnu hlt)).1]) HE.out).mono ?_); rintro e we ⟨rfl, hbe⟩; have HD := Lib.hid (HD.out.step hbe); clear hbe))
        go_ret2
        exact ⟨by first | (rw [consB_false hv (pre_I P hlt) HE.out]; done) | (rw [consB_false hv (pre_I P hlt) HE.out]; rfl), HD.out.below⟩
    · obtain rfl : i = P.n := by omega
      go_wp2_with fail
      go_ret2
      exact ⟨by first | (rw [consB_true hv HEQ.out]; done) | (rw [consB_true hv HEQ.out]; rfl), HD.out.below⟩
end Go.Proofs
