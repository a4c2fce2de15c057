/- The walk of CollectOrders; Arguments opened: lists of numbers, tables, presentations. -/
import Derived.Test.YtffkmchmakfcpaaOrCS25
import Derived.Test.YtffkmchmakfcpaaOrCS24
import Derived.Test.YtffkmchmakfcpaaOrCS18
import Derived.Test.YtffkmchmakfcpaaOrCS23
import Derived.Test.YtffkmchmakfcpaaOrCS16
import Derived.ProofKit
import Derived.Deep.Slices
import Derived.Deep.Strs
namespace Go.Proofs
open Go.RowKit Go.Proofs.Pc
theorem enum48 (w : World) (g lim : Nat) (rels : List (List Int)) (v : Value) (hg : 1 ≤ g ∧ g ≤ 16) (hl : 1 ≤ lim ∧ lim ≤ 20000) (hr : ∀ j, j < rels.length → Ct.LOk g (rels.getD j [])) (h : Tab w v rels) :
    Calls Try.prog 48 #[.agg #[.int .i64 (g : Int), v], .slice none 0 0, .int .i64 (lim : Int)] w fun e w' => ((∃ x, x ≠ 0 ∧ ∃ A c a b, e = .returned (.tuple #[.slice A 0 c, .agg #[.int .i64 a, .int .i64 b, .int .i64 0], .int .i64 x])) ∨
      ∃ t A c a b, Ct.Coset g rels [] t ∧ e = .returned (.tuple #[.slice A t.length c, .agg #[.int .i64 a, .int .i64 b, .int .i64 0], .int .i64 0]) ∧ t.length ≤ 9223372036854775807) ∧ Below w.heap.size w w' := by
  have h0 := B18.enum32_any w v (.slice none 0 0) g rels [] lim (tab18 h) (tab18 tab_nil) (fun j => by simp) (by simp)
  refine h0.mono fun e w' (⟨⟨u, h5, h6⟩, h7⟩ : B18.EnumPost g rels [] lim w e w') => ⟨?_, h7⟩
  rcases B18.enum_coset hg hl hr with ⟨x, hx, hE⟩ | ⟨t, a, b, hE, hC⟩
  · rw [hE] at h5 h6
    obtain ⟨A, c, rfl, -, -, -⟩ := (of_tab18 h6).open_
    exact .inl ⟨x, hx, A, c, _, _, h5⟩
  · rw [hE] at h5 h6
    obtain ⟨A, c, rfl, h8, h9, -⟩ := (of_tab18 h6).open_
    exact .inr ⟨t, A, c, a, b, hC, h5, by show ((t, (a, b), (0 : Int)).1.length : Nat) ≤ _; omega⟩
theorem firstNZ_of {f : Nat → Int} {n : Nat} (h : firstNZ f n = 0) : ∀ k, k ≤ n → firstNZ f k = 0
  | 0, _ => rfl
  | k + 1, hk => firstNZ_step (firstNZ_of h k (by omega)) (firstNZ_zero h k (by omega))
set_option maxRecDepth 100000 in
set_option maxHeartbeats 4000000 in
theorem orders11_any (w : World) (v0 v1 v2 : Value) (P : PcD) (hP : PcAt w v0 v1 v2 P) :
    Calls Try.prog 11 #[.agg #[v0, v1, v2]] w fun e w' => e = .returned (.bool true) ∧ Below w.heap.size w w' := by
  obtain ⟨⟨A0, c0, rfl⟩, ⟨A1, c1, rfl⟩, A2, c2, rfl⟩ := pc_slices hP
  have HP := Lib.hid hP
  have HD := Lib.hid (show Bd w (.slice A0 P.orders.length c0) (.slice A1 P.powers.length c1) (.slice A2 P.conj.length c2) (w.alloc (.cells #[.slice A0 P.orders.length c0, .slice A1 P.powers.length c1, .slice A2 P.conj.length c2] 26)) from ⟨(Below.refl _ _).alloc (Nat.le_refl _) _, heap_alloc_new w _⟩)
  clear hP
  obtain ⟨E1, hE1⟩ : ∃ x, x = (checkD P).1 := ⟨_, rfl⟩
  obtain ⟨E2, hE2⟩ : ∃ x, x = (checkD P).2 := ⟨_, rfl⟩
  have HE1 := Lib.hid hE1
  have HE2 := Lib.hid hE2
  clear hE1 hE2
  go_enter Try.func11, Try.ntmps11
  go_wp2_with fail
  refine (kn_walk _).mono ?_
  rintro e w1 ⟨rfl, hb⟩
  have HD := Lib.hid (HD.out.step hb)
  have k0 := HD.out.c0
  have k1 := HD.out.c1
  have k2 := HD.out.c2
  clear hb
  go_wp2_with fail
  refine (checkRef_any _ _ _ _ P (HP.out.below HD.out.below)).mono ?_
  rintro e w2 ⟨rfl, hb⟩
  rw [← HE1.out, ← HE2.out]
  have HD := Lib.hid (HD.out.step hb)
  clear k0 k1 k2
  have k0 := HD.out.c0
  have k1 := HD.out.c1
  have k2 := HD.out.c2
  clear hb
  by_cases he : E1 = 0
  · subst he
    have hn0 : (0 : Int) ≤ (P.orders.length : Int) := Int.natCast_nonneg _
    by_cases hn1 : P.orders.length < 1
    · have hn1' : (P.orders.length : Int) < 1 := by omega
      clear hn1
      go_wp2_with fail
      go_ret
      exact ⟨rfl, HD.out.below⟩
    · by_cases hn4 : 4 < P.orders.length
      · have hn1' : 1 ≤ (P.orders.length : Int) := by omega
        have hn4' : 4 < (P.orders.length : Int) := by omega
        clear hn1 hn4
        go_wp2_with fail
        go_ret
        exact ⟨rfl, HD.out.below⟩
      · have hn1' : 1 ≤ (P.orders.length : Int) := by omega
        have hn4' : (P.orders.length : Int) ≤ 4 := by omega
        have HN : Hid (1 ≤ P.n ∧ P.n ≤ 4) := Lib.hid ⟨by show 1 ≤ P.orders.length; omega, by show P.orders.length ≤ 4; omega⟩
        clear hn1 hn4
        have HCH : Hid ((checkD P).1 = 0) := Lib.hid HE1.out.symm
        have HV := Lib.hid (valid_of_check HCH.out)
        have HPB : Hid (∀ k, k ≤ P.n → 0 ≤ prod P k ∧ prod P k ≤ 50000) := Lib.hid fun k hk => prod_bd k (firstNZ_of (checkD_ok HCH.out).2.2.1 k hk) (checkD_ok HCH.out).2.1 hk
        go_wp2_with fail
        go_loopw [6, 7] (fun n i wr => ∃ k : Nat, k ≤ P.n ∧ n = .int .i64 (prod P k) ∧ i = .int .i64 k ∧ Bd w (.slice A0 P.orders.length c0) (.slice A1 P.powers.length c1) (.slice A2 P.conj.length c2) wr) (fun n i _ => P.n - (intOf i).toNat)
        case atStart => exact ⟨0, by omega, rfl, rfl, HD.out⟩
        case round =>
          obtain ⟨k, hk, rfl, rfl, hD⟩ := hrel
          have HD := Lib.hid hD
          have k0 := HD.out.c0
          have k1 := HD.out.c1
          have k2 := HD.out.c2
          clear hD
          by_cases hkn : k < P.n
          · have hkn' : (k : Int) < (P.orders.length : Int) := by show (k : Int) < (P.n : Int); omega
            obtain ⟨A', c', e1, -, -, hc⟩ := (HP.out.below HD.out.below).1.open_
            injection e1 with e1 e2 e3
            subst e1 e3
            obtain ⟨b, o, rfl, hcc⟩ := hc (by show 0 < P.n; omega)
            have hcx : wr.cell? ⟨b, o + k, none⟩ = some (.int .i64 (P.ord k)) := hcc k hkn
            clear hc hcc e2
            have HS := Lib.hid (prod_succ (P := P) k)
            have h1 := HPB.out k (by omega)
            have h2 := HPB.out (k + 1) (by omega)
            rw [HS.out] at h2
            have h3 := HV.out.ord2 k hkn
            generalize hp : prod P k = p at *
            generalize P.ord k = q at *
            have HM := Lib.hid hp
            obtain ⟨m, hm⟩ : ∃ m, m = p * q := ⟨_, rfl⟩
            rw [← hm] at h2
            have HKN := Lib.hid hkn
            clear hkn hp
            go_wp2_with fail
            go_roundw
            case rel => exact ⟨k + 1, by have := HKN.out; omega, by rw [HS.out], by go_num, HD.out⟩
            case measure => have := HKN.out; simp [intOf]; omega
          · have hke : k = P.n := by omega
            subst hke
            have hkn' : ¬ ((P.n : Int) < (P.orders.length : Int)) := by show ¬ ((P.n : Int) < (P.n : Int)); omega
            have HB50 := HPB.out P.n (Nat.le_refl _)
            obtain ⟨N, hN⟩ : ∃ N : Nat, prod P P.n = (N : Int) := Int.eq_ofNat_of_zero_le HB50.1
            have HNE := Lib.hid hN
            rw [hN] at HB50 ⊢
            have hN0 := HB50.1
            have hN5 := HB50.2
            clear hkn HB50 hN
            by_cases h100 : 100 < (N : Int)
            · go_wp2_with fail
              go_ret
              exact ⟨rfl, HD.out.below⟩
            · have h100' : (N : Int) ≤ 100 := by omega
              clear h100
              have HTOT : Hid (relsD P = (0, (P.n : Int), rels P)) := Lib.hid (by
                have h1 := tot_small HV.out HN.out.2 (by rw [HNE.out]; exact h100')
                have h2 := HN.out.1
                unfold relsD
                rw [if_neg (by rw [HCH.out]; simp), if_neg (by omega), if_neg (by omega)])
              have HLAW : Hid (∀ t, Ct.Coset P.n (rels P) [] t → t.length ≤ N ∧ consB P = decide (t.length = N)) := Lib.hid fun t ht => by
                have := orders_law HV.out ht
                rwa [HNE.out, Int.toNat_natCast] at this
              have HOK : Hid (∀ j, j < (rels P).length → Ct.LOk P.n ((rels P).getD j [])) := Lib.hid fun j hj => by
                rw [List.getD_eq_getElem?_getD, List.getElem?_eq_getElem hj]
                exact rels_ok (List.getElem_mem hj)
              go_wp2_with fail
              refine (cons14_good _ _ _ _ P (HP.out.below HD.out.below) HCH.out).mono ?_
              rintro e w3 ⟨rfl, hb⟩
              have HD := Lib.hid (HD.out.step hb)
              clear k0 k1 k2 hb
              have k0 := HD.out.c0
              have k1 := HD.out.c1
              have k2 := HD.out.c2
              go_wp2_with fail
              refine (rel_any _ _ _ _ P (HP.out.below HD.out.below)).mono ?_
              intro e w4 hr
              obtain ⟨Aa, ca, rfl, hta, hb⟩ := hr.open_ HTOT.out
              have hal : Below w4.heap.size w4 (w4.alloc (.cells #[.int .i64 (P.n : Int), .slice Aa (rels P).length ca] 46)) := (Below.refl _ _).alloc (Nat.le_refl _) _
              have HD := Lib.hid ((HD.out.step hb).step hal)
              have HTA := Lib.hid (kept_tab.below hta hal)
              have HBA := Lib.hid (heap_alloc_new w4 (.cells #[.int .i64 (P.n : Int), .slice Aa (rels P).length ca] 46))
              clear hr hb hta hal k0 k1 k2
              have k0 := HD.out.c0
              have k1 := HD.out.c1
              have k2 := HD.out.c2
              have H48 := Lib.hid (enum48 (w4.alloc (.cells #[.int .i64 (P.n : Int), .slice Aa (rels P).length ca] 46)) P.n 2000 (rels P) (.slice Aa (rels P).length ca) ⟨HN.out.1, by have := HN.out.2; omega⟩ (by omega) HOK.out HTA.out)
              go_wp2_with fail
              refine H48.out.mono ?_
              rintro e w5 ⟨hc, hb⟩
              have HD := Lib.hid (HD.out.step hb)
              clear k0 k1 k2 hb H48
              have k0 := HD.out.c0
              have k1 := HD.out.c1
              have k2 := HD.out.c2
              rcases hc with ⟨x, hx, A5, c5, a, b, rfl⟩ | ⟨t, A5, c5, a, b, hC, rfl, hl⟩
              · have hx' : (x != 0) = true := by simpa using hx
                clear hx
                go_wp2_with fail
                go_ret
                exact ⟨rfl, HD.out.below.alloc HD.out.below.size _⟩
              · obtain ⟨l1, l2⟩ := HLAW.out t hC
                have hl0 : (0 : Int) ≤ (t.length : Int) := Int.natCast_nonneg _
                have hl1 : (t.length : Int) ≤ (N : Int) := by omega
                clear hC l1
                by_cases hq : t.length = N
                · have hq' : ((t.length : Int) == (N : Int)) = true := by rw [hq]; simp
                  have hcb : consB P = true := by rw [l2]; simpa using hq
                  clear hq l2
                  go_wp2_with fail
                  go_ret
                  exact ⟨by simp, HD.out.below.alloc HD.out.below.size _⟩
                · have hq' : ((t.length : Int) == (N : Int)) = false := by
                    have : ¬ (t.length : Int) = (N : Int) := by omega
                    simpa using this
                  have hcb : consB P = false := by rw [l2]; simpa using hq
                  clear hq l2
                  go_wp2_with fail
                  go_ret
                  exact ⟨by simp, HD.out.below.alloc HD.out.below.size _⟩
  · have he' : (E1 != 0) = true := by simpa using he
    clear he
    go_wp2_with fail
    go_ret
    exact ⟨rfl, HD.out.below⟩
end Go.Proofs
namespace Go.Proofs
open Go.RowKit Go.Proofs.Pc Go.ChangeShapes Go.WideShapes Go.ChangeAt Go.Deep
section
variable {H : Type} {enc : TypeId × Value → H} {W : World}
theorem spot_none {a : Addr} {v : Value} (h : W.cell? (a.add 0) = some v) : a = ⟨a.block, a.off, none⟩ := by
  obtain ⟨b, o, s⟩ := a
  cases s with
  | none => rfl
  | some q =>
    exfalso
    have e : ({ block := b, off := o, spot := some q } : Addr).add 0 = { block := b, off := o, spot := some q } := by unfold Addr.add; rw [if_pos rfl]
    rw [e] at h
    unfold World.cell? at h
    simp only [Option.isSome_some, if_true] at h
    split at h <;> cases h
theorem wf_fits {x : Int} (h : (Lit.int .i64 x).wf = true) : -9223372036854775808 ≤ x ∧ x ≤ 9223372036854775807 := by
  simpa [Lit.wf, IntKind.min, IntKind.max, IntKind.signed, IntKind.bits] using h
theorem lat_of_trod {α : Type} {R : World → Value → α → Prop} {d : α} {t e : TypeId} {base fuel : Nat} {spare : Nat → Bool} {held : Bool} {v : Value} {x : DataW H × List MemPlace} (ht : Try.prog.underlying t = some (.slice e)) (hc : Try.prog.cellsOf e = 1)
    (hR : ∀ n u y, DataW.trod enc Try.prog W base spare held n e [u] = some y → ∃ z, R W u z) (h : DataW.trod enc Try.prog W base spare held fuel t [v] = some x) : ∃ xs, LAt R d W v xs := by
  rcases open_slice1 ht hc h with ⟨hv, -⟩ | ⟨a, len, cap, m, n, V, D, Pl, hv, -, hl, hm, hmm, -, hx⟩
  · obtain rfl : v = .slice none 0 0 := by simpa using hv
    exact ⟨[], [], ⟨none, 0, 0, rfl, rfl, Nat.le_refl _, by simp [maxLen], fun h => absurd h (by simp)⟩, rfl, fun i hi => absurd hi (by simp)⟩
  · obtain rfl : v = .slice (some a) len cap := by simpa using hv
    have hlm : len ≤ m := by rw [hmm]; split <;> omega
    have hz : ∀ i, i < len → ∃ z, R W (V i) z := fun i hi => hR n (V i) _ (hx i (by omega)).2
    have hf : ∃ f : Nat → α, ∀ i, i < len → R W (V i) (f i) := by
      have hz' : ∀ i, ∃ z, i < len → R W (V i) z := fun i => by
        by_cases hi : i < len
        · obtain ⟨z, hz⟩ := hz i hi; exact ⟨z, fun _ => hz⟩
        · exact ⟨d, fun h => absurd h hi⟩
      exact ⟨fun i => Classical.choose (hz' i), fun i => Classical.choose_spec (hz' i)⟩
    obtain ⟨f, hf⟩ := hf
    refine ⟨(List.range len).map f, (List.range len).map V, ⟨_, len, cap, rfl, by simp, hl, hm, fun h0 => ?_⟩, by simp, fun i hi => ?_⟩
    · have hsp := spot_none (hx 0 (by omega)).1
      refine ⟨a.block, a.off, by rw [← hsp], fun j u hu => ?_⟩
      have hj : j < len := by have := (List.getElem?_eq_some_iff.1 hu).1; simpa using this
      have := (hx j (by omega)).1
      rw [hsp, Addr.add_lit] at this
      rw [this, ← hu]
      simp [List.getElem?_range hj]
    · have hi' : i < len := by simpa using hi
      refine ⟨V i, by simp [List.getElem?_range hi'], ?_⟩
      have : ((List.range len).map f).getD i d = f i := by simp [List.getD_eq_getElem?_getD, List.getElem?_range hi']
      rw [this]
      exact hf i hi'
theorem ints_of_trod {base fuel : Nat} {spare : Nat → Bool} {held : Bool} {v : Value} {x : DataW H × List MemPlace} (h : DataW.trod enc Try.prog W base spare held fuel 22 [v] = some x) : ∃ xs, IntsAt W v xs := by
  obtain ⟨xs, vs, hS, hl, he⟩ := lat_of_trod (R := fun _ u z => u = .int .i64 z ∧ (Lit.int .i64 z).wf = true) (d := 0) Try.underlying22 (by kernel_rfl) (fun n u y hy => by
    obtain ⟨m, hu, -, hw⟩ := DataW.trod_int Try.underlying3 hy
    exact ⟨m, by simpa using hu, hw⟩) h
  have hvs : vs = ints xs := by
    apply List.ext_getElem (by simpa [ints] using hl)
    intro i h1 h2
    obtain ⟨u, hu, rfl, -⟩ := he i (by omega)
    have hi : i < xs.length := by omega
    rw [List.getElem?_eq_getElem h1] at hu
    rw [Option.some.inj hu]
    simp [ints, List.getD_eq_getElem?_getD, hi]
  refine ⟨xs, hvs ▸ hS, fun z hz => ?_⟩
  obtain ⟨i, hi, rfl⟩ := List.getElem_of_mem hz
  obtain ⟨u, -, -, hw⟩ := he i hi
  have e : xs.getD i 0 = xs[i] := by simp [List.getD_eq_getElem?_getD, hi]
  rw [e] at hw
  exact wf_fits hw
theorem tab_of_trod {base fuel : Nat} {spare : Nat → Bool} {held : Bool} {v : Value} {x : DataW H × List MemPlace} (h : DataW.trod enc Try.prog W base spare held fuel 23 [v] = some x) : ∃ L, Tab W v L :=
  lat_of_trod Try.underlying23 (by kernel_rfl) (fun _ _ _ hy => ints_of_trod hy) h
theorem tab3_of_trod {base fuel : Nat} {spare : Nat → Bool} {held : Bool} {v : Value} {x : DataW H × List MemPlace} (h : DataW.trod enc Try.prog W base spare held fuel 24 [v] = some x) : ∃ L, Tab3 W v L :=
  lat_of_trod Try.underlying24 (by kernel_rfl) (fun _ _ _ hy => tab_of_trod hy) h
theorem cells26 : Try.prog.cellsOf 26 = 3 := by kernel_rfl
theorem cells22 : Try.prog.cellsOf 22 = 1 := by kernel_rfl
theorem cells23 : Try.prog.cellsOf 23 = 1 := by kernel_rfl
theorem cells24 : Try.prog.cellsOf 24 = 1 := by kernel_rfl
set_option maxRecDepth 100000 in
theorem pc_of_trod {base : Nat} {spare : Nat → Bool} {held : Bool} {v : Value} {d : DataW H} {ps : List MemPlace} (h : DataW.Trod enc Try.prog W base spare held 26 v d ps) : ∃ a0 a1 a2 P, v = .agg #[a0, a1, a2] ∧ PcAt W a0 a1 a2 P := by
  obtain ⟨fuel, hf⟩ := h
  obtain ⟨y0, y1, y2, n, -, hlen, h0, h1, h2⟩ := trod_struct3 Try.underlying26 hf
  rw [cells26] at hlen
  obtain ⟨cs, rfl⟩ : ∃ cs, v = .agg cs := by
    cases v <;> simp [Value.cells] at hlen
    exact ⟨_, rfl⟩
  have hcs : cs.toList.length = 3 := hlen
  obtain ⟨l⟩ := cs
  match l, hcs with
  | [a0, a1, a2], _ =>
    simp [Value.cells, cells22, cells23, cells24] at h0 h1 h2
    obtain ⟨xs, hx⟩ := ints_of_trod h0
    obtain ⟨L, hL⟩ := tab_of_trod h1
    obtain ⟨M, hM⟩ := tab3_of_trod h2
    exact ⟨a0, a1, a2, ⟨xs, L, M⟩, rfl, hx, hL, hM⟩
end
end Go.Proofs
