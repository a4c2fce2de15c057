/- (*felsch.deducer).complete; felsch.begin: its pieces; felsch.begin; felsch.ended: the deferred function; Words of letters, plainly: the law of FelschRotations. -/
import Derived.Test.YtmpnengjboabcaaFlCS17
import Derived.Test.YtmpnengjboabcaaFlCS6
import Derived.Test.YtmpnengjboabcaaFlCS16
import Derived.Test.YtmpnengjboabcaaFlCS9
import Derived.Test.YtmpnengjboabcaaFlCS11
namespace Go.Proofs
open Go.RowKit Go.Shelf Go.Proofs.Ct Go.Maps
def idxOf1 (xs : List Int) (z : Int) : Int := match first (fun k => decide (xs.getD k 0 = z)) xs.length with
  | some k => (k : Int)
  | none => -1
set_option maxRecDepth 100000 in
set_option maxHeartbeats 400000 in
theorem idx186_first (w : World) (v : Value) (xs : List Int) (z : Int) (h : IntsAt w v xs) : Calls Try.prog 186 #[v, .int .i64 z] w fun e w' => e = .returned (.int .i64 (idxOf1 xs z)) ∧ w = w' := by
  obtain ⟨A, c, rfl, hc1, hc2, hc⟩ := h.open_
  have HC := Lib.hid hc
  have HT : Hid (∀ k, k < xs.length → (∀ j, j < k → xs.getD j 0 ≠ z) → xs.getD k 0 = z → idxOf1 xs z = (k : Int)) := Lib.hid fun k hk h1 h2 => by
    unfold idxOf1
    rw [first_some hk (by simpa using h2) fun j hj => by simpa using h1 j hj]
  have HF : Hid ((∀ j, j < xs.length → xs.getD j 0 ≠ z) → idxOf1 xs z = -1) := Lib.hid fun h1 => by
    unfold idxOf1
    rw [first_none fun j hj => by simpa using h1 j hj]
  generalize idxOf1 xs z = F at *
  clear hc h
  go_enter Try.func186, Try.ntmps186
  go_wp2_with fail
  go_loopw [5, 8] (fun _ i wr => ∃ k : Nat, k ≤ xs.length ∧ i = .int .i64 k ∧ Hid (∀ j, j < k → xs.getD j 0 ≠ z) ∧ w = wr) (fun _ i _ => xs.length - (intOf i).toNat)
  case atStart => exact ⟨0, Nat.zero_le _, rfl, Lib.hid fun j hj => absurd hj (by omega), rfl⟩
  case round =>
    obtain ⟨k, hk, rfl, HZ, rfl⟩ := hrel
    have hk0 : (0 : Int) ≤ (k : Int) := Int.natCast_nonneg _
    by_cases hlt : k < xs.length
    · have hlt' : (k : Int) < (xs.length : Int) := by omega
      obtain ⟨b, o, rfl, hcc⟩ := HC.out (by omega)
      have hck := hcc k hlt
      have HT1 := Lib.hid (HT.out k hlt HZ.out)
      have HN : Hid (xs.getD k 0 ≠ z → ∀ j, j < k + 1 → xs.getD j 0 ≠ z) := Lib.hid fun h => all_succ HZ.out h
      clear hcc
      generalize xs.getD k 0 = x at *
      by_cases hx : z = x
      · have d1 : (z == x) = true := by simpa using hx
        have HT2 := Lib.hid (HT1.out hx.symm)
        clear hx
        go_wp2_with fail
        go_ret
        exact ⟨ret_int HT2.out.symm, (by first | trivial | rfl)⟩
      · have d1 : (z == x) = false := by simpa using hx
        have HN2 := Lib.hid (HN.out fun h => hx h.symm)
        clear hx
        go_wp2_with fail
        go_roundw
        case rel => exact ⟨k + 1, by omega, by go_num, HN2, (by first | trivial | rfl)⟩
        case measure => simp [intOf]; omega
    · obtain rfl : k = xs.length := by omega
      have HF2 := Lib.hid (HF.out HZ.out)
      go_wp2_with fail
      go_ret
      exact ⟨ret_int HF2.out.symm, (by first | trivial | rfl)⟩
namespace Ct
theorem idx_open {g : Nat} {s : St} (hI : Inv g s) {r : Nat} (hr : r < s.t.length) : idxOf1 (s.t.row r) (-1) = match openC (2 * g) s r with | some c => (c : Int) | none => -1 := by
  unfold idxOf1 openC
  rw [hI.len r hr]
  have e : ∀ k, k < 2 * g → (decide ((s.t.row r).getD k 0 = -1)) = decide (s.t.at r k < 0) := fun k hk => by
    have := hI.bd r hr k hk
    have e2 : (s.t.row r).getD k 0 = s.t.at r k := rfl
    rw [e2]
    by_cases h : s.t.at r k < 0
    · rw [decide_eq_true h, decide_eq_true (by omega)]
    · rw [decide_eq_false h, decide_eq_false (by omega)]
  cases h1 : first (fun c => decide (s.t.at r c < 0)) (2 * g) with
  | none =>
    rw [first_none fun j hj => by rw [e j hj]; exact first_none' h1 j hj]
  | some c =>
    obtain ⟨a, b, c'⟩ := first_some' h1
    rw [first_some a (by rw [e c a]; exact b) fun j hj => by rw [e j (by omega)]; exact c' j hj]
theorem openS_first {m : Nat} {s : St} {r c : Nat} (hr : r < s.t.length) (hl : s.rp r = r) (hc : openC m s r = some c) (hb : ∀ j, j < r → Ct.openR m s j = false) : openS m s = some (r, c) := by
  have h2 : Ct.openR m s r = true := by unfold openR; rw [hc, hl]; simp
  unfold openS
  rw [first_some hr h2 hb]
  simp only
  rw [hc]
  rfl
theorem openS_nil {m : Nat} {s : St} (hbk : ∀ j, j < s.t.length → Ct.openR m s j = false) : openS m s = none := by
  unfold openS
  rw [first_none hbk]
theorem openR_not {m : Nat} {s : St} {r : Nat} (h : openC m s r = none ∨ s.rp r ≠ r) : Ct.openR m s r = false := by
  unfold openR
  rcases h with h | h
  · rw [h]; simp
  · rw [decide_eq_false h]; rfl
end Ct
theorem StFB.rowAt {K : Nat → Prop} {T : TypeId} {ex : List Value} {bl cs : Nat → Nat} {g base b wd lim : Nat} {w : World} {f : FS} (hI : Inv g f.s) (hn : f.s.t.length ≤ 1000000) (hS : StFB K T ex bl cs base b wd lim w f) {r : Nat} (hr : r < f.s.t.length) : ∃ gr cr, w.cell? ⟨b, 2, none⟩ = some (.slice (some ⟨gr, 0, none⟩) f.s.t.length cr) ∧ w.cell? ⟨gr, r, none⟩ = some (.slice (some ⟨bl r, 0, none⟩) (2 * g) (cs r)) ∧ IntsAt w (.slice (some ⟨bl r, 0, none⟩) (2 * g) (cs r)) (f.s.t.row r) := by
  obtain ⟨-, P, vr, vp, vq, vk, hB, hC, -⟩ := hS
  obtain ⟨-, hX, h1, h2⟩ := hC.row r hr
  have hlen := hI.len r hr
  have hfit : Fits (f.s.t.row r) := fun x hx => by
    obtain ⟨c, hc, rfl⟩ := List.mem_iff_getElem.1 hx
    have := hI.bd r hr c (by omega)
    unfold Tb.at at this
    rw [List.getD_eq_getElem?_getD, List.getElem?_eq_getElem hc] at this
    simp at this
    omega
  obtain ⟨hl, ho⟩ := hC.out
  rcases ho with ⟨-, h0⟩ | ⟨gr, cap, cur, rfl, hb, hCr, h3, hm, hs, ht⟩
  · omega
  · refine ⟨gr, cap, hB.cells.2.2.1, ?_, hX.ints hlen (by omega) h2 hfit⟩
    rw [cell_of_row _ _ _ _ _ _ hCr]
    have h2 : (cur.toList.take (f.s.t.length * 1))[r]? = ((List.range f.s.t.length).map fun i => Value.slice (some ⟨bl i, 0, none⟩) (f.s.t.row i).length (cs i))[r]? := by rw [ht]
    rw [List.getElem?_take, if_pos (by omega)] at h2
    simpa [hr, hlen] using h2
structure MapW (K : Nat → Prop) (base : Nat) (w : World) (ex : List Value) (m : Nat) (ws : Nat → List W) (fm : Int → Value) (B0 nB : Nat) : Prop where
  ex0 : ex[0]? = some (.map (some B0))
  kb : K B0
  map : MapL w B0 nB fm
  at_ : ∀ c, c < m → ∀ W, Keeps base K w W → Tab W (fm (letter c)) (ws c)
theorem MapW.keep {K : Nat → Prop} {base : Nat} {w w' : World} {ex : List Value} {m : Nat} {ws : Nat → List W} {fm : Int → Value} {B0 nB : Nat} (h : MapW K base w ex m ws fm B0 nB) (hk : Keeps base K w w') : MapW K base w' ex m ws fm B0 nB := ⟨h.ex0, h.kb, h.map.keep (hk.2 _ h.kb), fun c hc W hW => h.at_ c hc W (hk.trans hW)⟩
set_option maxRecDepth 100000 in
set_option maxHeartbeats 1000000 in
theorem complete146_any (K : Nat → Prop) (T : TypeId) (ex : List Value) (g m base b lim : Nat) (hm : m = 2 * g) (w : World) (f : FS) (ws : Nat → List W) (fm : Int → Value) (B0 nB : Nat) (hT : TyF T) (hF : Fine g f) (hG : FGood g lim f) (hk : f.k = []) (hS : StF K T ex base b m lim w f) (hbw : base ≤ w.heap.size) (hlim : lim ≤ 1000)
    (hM : MapW K base w ex m ws fm B0 nB) (hl : ∀ c, c < m → ∀ j, j < (ws c).length → LOk g ((ws c).getD j [])) (hwl : ∀ c, c < m → ∀ j, ((ws c).getD j []).length ≤ 1000000) :
    Calls Try.prog 146 #[.pointer (some ⟨b, 0, none⟩)] w fun e w' => ((∃ f', compF m lim ws f = some f' ∧ e = .returned (.tuple #[]) ∧ StF K T ex base b m lim w' f' ∧ Fine g f') ∨ (compF m lim ws f = none ∧ e = .panicked fullF)) ∧ Keeps base K w w' := by
  have HREL : Hid (StF K T ex base b m lim w f ∧ Fine g f ∧ FGood g lim f ∧ f.k = []) := Lib.hid ⟨hS, hF, hG, hk⟩
  generalize hfe : compF m lim ws f = F at *
  have HFE := Lib.hid hfe
  have HT := Lib.hid hT
  have HM := Lib.hid hm
  have HBW := Lib.hid hbw
  have HMW := Lib.hid hM
  have HL := Lib.hid hl
  have HWL := Lib.hid hwl
  have HL2 : Hid (∀ c, c < 2 * g → ∀ j, j < (ws c).length → LOk g ((ws c).getD j [])) := Lib.hid (by rw [← hm]; exact hl)
  clear hF hG hS hk hfe hT hm hbw hM hl hwl
  go_enter Try.func146, Try.ntmps146
  go_wp2_with fail
  go_loopw [2] (fun i wr => ∃ (k : Nat) (f1 : FS), i = .int .i64 (k : Int) ∧ k ≤ f1.s.t.length ∧ Hid (StF K T ex base b m lim wr f1 ∧ Fine g f1 ∧ FGood g lim f1 ∧ f1.k = []) ∧ Hid (compF m lim ws f1 = F) ∧ Hid (∀ j, j < k → Ct.openR m f1.s j = false) ∧ Hid (Keeps base K w wr)) (fun i wr => (lim + 1 - rowsIn b wr) * (lim + 2) + (lim + 1 - (intOf i).toNat))
  case atStart => exact ⟨0, f, rfl, Nat.zero_le _, HREL, HFE, Lib.hid fun j hj => absurd hj (by omega), Lib.hid (Keeps.refl _ _ _)⟩
  case round =>
    clear HREL HFE
    obtain ⟨k, f1, rfl, hk, HI, HF1, HK, HB⟩ := hrel
    have hk0 : (0 : Int) ≤ (k : Int) := Int.natCast_nonneg _
    obtain ⟨⟨bl, cs, h1⟩, h2, h3, h4⟩ := HI.out
    have HRW : Hid (rowsIn b wr = f1.s.t.length) := Lib.hid (StF.rowsIn ⟨bl, cs, h1⟩)
    have hn1 := h2.n
    have hnI : (f1.s.t.length : Int) ≤ 1000 := by omega
    have HLM : Hid (f1.s.t.length ≤ lim) := Lib.hid h3.good.n2
    have hstep := compF_step (ws := ws) HL2.out h3
    rw [← HM.out, HF1.out] at hstep
    by_cases hlt : k < f1.s.t.length
    · have hltI : (k : Int) < (f1.s.t.length : Int) := by omega
      obtain ⟨gr, cr, r1, r2, r3⟩ := h1.rowAt h2.rest.rest.inv (by omega) hlt
      have hix := idx186_first wr _ _ (-1) r3
      have hzi := idx_open h2.rest.rest.inv hlt
      rw [← HM.out] at r2 hix hzi
      generalize idxOf1 (f1.s.t.row k) (-1) = zi at *
      have HIX := Lib.hid hix
      have HAL := Lib.hid (alive198_any K T ex bl cs base b m lim k wr f1 h1 hlt)
      have HMEAS : Hid ((lim + 1 - rowsIn b wr) * (lim + 2) + (lim + 1 - (k + 1)) < (lim + 1 - rowsIn b wr) * (lim + 2) + (lim + 1 - k)) := Lib.hid (by have := HLM.out; omega)
      generalize hbk : bl k = bk at *
      generalize cs k = kk at *
      cases hoc : openC m f1.s k with
      | none =>
        have hzi : zi = -1 := by rw [hzi, hoc]
        have HK2 : Hid (∀ j, j < k + 1 → Ct.openR m f1.s j = false) := Lib.hid fun j hj => by
          rcases Nat.lt_or_ge j k with h | h
          · exact HK.out j h
          · obtain rfl : j = k := by omega
            exact openR_not (.inl hoc)
        have HIX' : Hid (Calls Try.prog 186 #[.slice (some ⟨bk, 0, none⟩) m kk, .int .i64 (-1)] wr fun e w' => e = .returned (.int .i64 (-1)) ∧ wr = w') := Lib.hid (by have h := HIX.out; rw [hzi] at h; exact h)
        clear hoc hstep h1 h2 h3 h4 r3 hix hzi HIX HAL hbk
        go_wp2_with (first
          | (go_at_call 186; (with_reducible refine HIX'.out.mono ?_); rintro E w1 ⟨rfl, rfl⟩))
        go_roundw
        case rel => exact ⟨k + 1, f1, by go_num, by omega, HI, HF1, HK2, HB⟩
        case measure => simpa [intOf] using HMEAS.out
      | some c =>
        have hzi : zi = (c : Int) := by rw [hzi, hoc]
        have HIX' : Hid (Calls Try.prog 186 #[.slice (some ⟨bk, 0, none⟩) m kk, .int .i64 (-1)] wr fun e w' => e = .returned (.int .i64 (c : Int)) ∧ wr = w') := Lib.hid (by have h := HIX.out; rw [hzi] at h; exact h)
        have hc0 : (0 : Int) ≤ (c : Int) := Int.natCast_nonneg _
        by_cases hal : f1.s.rp k = k
        · rw [decide_eq_true hal] at HAL
          have hos := openS_first hlt hal hoc HK.out
          rw [hos] at hstep
          simp only at hstep
          obtain ⟨-, -, hcm, hneg⟩ := openS_some hos
          by_cases hfull : lim ≤ f1.s.t.length
          · have HE : Hid (F = none) := Lib.hid (by rw [hstep]; exact if_pos hfull)
            have HD := Lib.hid (define197_full K T ex bl cs m base b lim k c wr f1 h1 (Nat.le_trans HBW.out HB.out.size) (by omega) hfull)
            clear hoc hos hstep h1 h2 h3 h4 r3 hix hzi HIX hal hbk hcm hneg hfull HI
            go_wp2_with (first
              | (go_at_call 186; (with_reducible refine HIX'.out.mono ?_); rintro E w1 ⟨rfl, rfl⟩)
              | (go_at_call 198; (with_reducible refine HAL.out.mono ?_); rintro E w2 ⟨rfl, rfl⟩)
              | (go_at_call 197; (with_reducible refine HD.out.mono ?_); rintro E w3 ⟨rfl, hb3⟩
                 have HB3 := Lib.hid (HB.out.trans hb3)
                 clear hb3))
            exact ⟨rfl, .inr ⟨HE.out, rfl⟩, HB3.out⟩
          · have hE : compF m lim ws (ded m ws (defF m f1 k c)) = F := by rw [hstep]; exact (if_neg hfull).symm
            have hk1 : f1.k.length ≤ 1000000000000 := by rw [h4]; simp
            have HD := Lib.hid (define197_any K T ex bl cs g m base b lim k c HM.out h2.g16 wr f1 HT.out h2.rest.rest h1 (Nat.le_trans HBW.out HB.out.size) (by omega) hlt hcm (by omega) (by omega) hk1)
            have hcg : c < 2 * g := by rw [← HM.out]; exact hcm
            have hgd := (h3.defn hlt hcg hal hneg (by omega)).1
            have hfd : Fine g (defF m f1 k c) := by rw [HM.out]; exact h2.defn hgd.rest (by omega)
            have hdd := def_ded (ws := ws) HL2.out h3 (by rw [← HM.out]; exact hos) (by omega)
            rw [← HM.out] at hdd hgd
            have hde := (ded_F (ws := ws) HL2.out hfd.rest).1
            rw [← HM.out] at hde
            have HN : Hid (Fine g (ded m ws (defF m f1 k c)) ∧ FGood g lim (ded m ws (defF m f1 k c)) ∧ (ded m ws (defF m f1 k c)).k = [] ∧ compF m lim ws (ded m ws (defF m f1 k c)) = F ∧ (ded m ws (defF m f1 k c)).s.t.length = f1.s.t.length + 1) := Lib.hid ⟨hfd.ext hde, hdd.1, hdd.2.2.2, hE, hdd.2.2.1⟩
            have HDD : Hid (∀ W, StF K T ex base b m lim W (defF m f1 k c) → Keeps base K w W → Calls Try.prog 145 #[.pointer (some ⟨b, 0, none⟩)] W fun e w' => e = .returned (.tuple #[]) ∧ StF K T ex base b m lim w' (ded m ws (defF m f1 k c)) ∧ Keeps base K W w') := Lib.hid fun W h hw => by
              obtain ⟨bl', cs', h'⟩ := h
              have hmw := HMW.out.keep hw
              exact (deduce145_any K T ex bl' cs' g m base b lim HM.out W _ ws fm B0 nB HT.out hfd h' (Nat.le_trans HBW.out hw.size) hmw.ex0 hmw.kb hmw.map hmw.at_ HL.out HWL.out).mono fun e w' ⟨a, b, c⟩ => ⟨a, ⟨bl', cs', b⟩, c⟩
            have HLT : Hid (f1.s.t.length < lim) := Lib.hid (by omega)
            clear hoc hos hstep h1 h2 h3 h4 r3 hix hzi HIX hal hbk hcm hneg hfull HI hgd hfd hdd hde hE hcg hk1
            generalize ded m ws (defF m f1 k c) = f9 at *
            generalize defF m f1 k c = f8 at *
            go_wp2_with (first
              | (go_at_call 186; (with_reducible refine HIX'.out.mono ?_); rintro E w1 ⟨rfl, rfl⟩)
              | (go_at_call 198; (with_reducible refine HAL.out.mono ?_); rintro E w2 ⟨rfl, rfl⟩)
              | (go_at_call 197; (with_reducible refine HD.out.mono ?_); rintro E w3 ⟨rfl, hs3, hb3⟩
                 have HS3 := Lib.hid hs3
                 have HB3 := Lib.hid (HB.out.trans hb3)
                 clear hs3 hb3)
              | (go_at_call 145; (with_reducible refine (HDD.out _ HS3.out HB3.out).mono ?_); rintro E w4 ⟨rfl, hs4, hb4⟩
                 have HS4 := Lib.hid hs4
                 have HB4 := Lib.hid (HB3.out.trans hb4)
                 clear hs4 hb4))
            go_roundw
            case rel => exact ⟨0, f9, by go_num, Nat.zero_le _, Lib.hid ⟨HS4.out, HN.out.1, HN.out.2.1, HN.out.2.2.1⟩, Lib.hid HN.out.2.2.2.1, Lib.hid fun j hj => absurd hj (by omega), HB4⟩
            case measure =>
              have e1 := HS4.out.rowsIn
              have e2 := HN.out.2.2.2.2
              have e3 := HRW.out
              have e4 := HLT.out
              simp only [intOf]
              rw [e1, e2, e3]
              obtain ⟨d, hd⟩ : ∃ d, lim + 1 - f1.s.t.length = d + 1 := ⟨lim - f1.s.t.length, by omega⟩
              rw [show lim + 1 - (f1.s.t.length + 1) = d by omega, hd, Nat.add_mul]
              omega
        · rw [decide_eq_false hal] at HAL
          have HK2 : Hid (∀ j, j < k + 1 → Ct.openR m f1.s j = false) := Lib.hid fun j hj => by
            rcases Nat.lt_or_ge j k with h | h
            · exact HK.out j h
            · obtain rfl : j = k := by omega
              exact openR_not (.inr hal)
          clear hoc hstep h1 h2 h3 h4 r3 hix hzi HIX hal hbk
          go_wp2_with (first
            | (go_at_call 186; (with_reducible refine HIX'.out.mono ?_); rintro E w1 ⟨rfl, rfl⟩)
            | (go_at_call 198; (with_reducible refine HAL.out.mono ?_); rintro E w2 ⟨rfl, rfl⟩))
          go_roundw
          case rel => exact ⟨k + 1, f1, by go_num, by omega, HI, HF1, HK2, HB⟩
          case measure => simpa [intOf] using HMEAS.out
    · obtain rfl : k = f1.s.t.length := by omega
      have HE : Hid (F = some f1) := Lib.hid (by rw [openS_nil HK.out] at hstep; exact hstep)
      have HEND : Hid (StF K T ex base b m lim wr f1 ∧ Fine g f1) := Lib.hid ⟨⟨bl, cs, h1⟩, h2⟩
      obtain ⟨A2, c2, hr2⟩ := h1.rows
      clear hstep h1 h2 h3 h4 hlt
      go_wp2_with fail
      go_end0
      exact ⟨.inl ⟨f1, HE.out, rfl, HEND.out.1, HEND.out.2⟩, HB.out⟩
end Go.Proofs
namespace Go.Proofs
open Go.RowKit Go.Shelf Go.Proofs.Ct Go.Maps
def fcells (wd lim : Nat) (s : St) (vr vp vq vk : Value) : Array Value := #[.int .i64 (wd : Int), .int .i64 (lim : Int), vr, vp, vq, vk, .int .i64 s.live, .int .i64 s.most]
def zero151 : Array Value := #[.int .i64 0, .int .i64 0, .slice none 0 0, .slice none 0 0, .slice none 0 0, .slice none 0 0, .int .i64 0, .int .i64 0]
theorem build151z (w : World) : (Instr.build 151 #[]).run Try.prog w = .ok (.agg zero151) w := by kernel_rfl
theorem alloc151 (w : World) : (Instr.alloc 151 true (.tuple #[])).run Try.prog w = .ok (.pointer (some ⟨w.heap.size, 0, none⟩)) (w.alloc (.cells zero151 151)) := by kernel_rfl
theorem info151s : (Try.prog.info? 151).map (·.size) = some 8 := by kernel_rfl
theorem zero151_one : zero151.all (·.oneCell') = true := by simp [zero151, Value.oneCell']
section
variable {o : Oper} {a : Act} {w : World}
theorem r_store151 (x y : Operand) (ho : o.op = .store 151 x y) (g : Nat) (old c' : Array Value) (hx : a.eval x = .pointer (some ⟨g, 0, none⟩)) (hy : a.eval y = .agg c') (hg : w.heap[g]? = some (.cells old 151 (0, 0)))
    (hi : c'.size = 8) (hoo : old.size = 8) (h1 : c'.all (·.oneCell') = true) : (execOp a.eval o).run Try.prog w = .ok .skip (w.setRow g c') := by
  unfold execOp
  simp only [ho, hx, hy, Instr.storeAt, Instr.sureAddr, Sem.run_bind, Sem.run_pure, Result.andThen_ok, run_storeVar_row w g 151 151 old c' hg (by rw [hi]; exact info151s) (by rw [hi, hoo]) h1]
theorem r_build151 (ho : o.op = .build 151 #[]) : (execOp a.eval o).run Try.prog w = .ok (.value (.agg zero151)) w := by
  have hb := build151z w
  unfold execOp
  simp only [ho, List.map_toArray, List.map_nil, Sem.run_bind, hb, Result.andThen_ok]
  rfl
theorem r_alloc151 (ho : o.op = .alloc 151) : (execOp a.eval o).run Try.prog w = .ok (.value (.pointer (some ⟨w.heap.size, 0, none⟩))) (w.alloc (.cells zero151 151)) := by
  have hb := alloc151 w
  unfold execOp
  simp only [ho, Sem.run_bind, hb, Result.andThen_ok]
  rfl
theorem r_load151 (x : Operand) (b : Nat) (v0 v1 v2 v3 v4 v5 v6 v7 : Value) (ho : o.op = .load 151 x) (hx : a.eval x = .pointer (some ⟨b, 0, none⟩)) (hc : w.heap[b]? = some (.cells #[v0, v1, v2, v3, v4, v5, v6, v7] 151 (0, 0))) : (execOp a.eval o).run Try.prog w = .ok (.value (.agg #[v0, v1, v2, v3, v4, v5, v6, v7])) w := by
  have hr : w.rangeAt b 0 [v0, v1, v2, v3, v4, v5, v6, v7] := fun j v hj => by rw [cell_of_row _ _ _ _ _ _ hc, Nat.zero_add]; simpa using hj
  unfold execOp
  simp only [ho, hx, Sem.run_bind, run_loadAt_mid (P := Try.prog) w b 0 151 [v0, v1, v2, v3, v4, v5, v6, v7] _ hr Try.underlying151 rfl (by kernel_rfl), Result.andThen_ok]
  rfl
end
theorem results_151_tmp {fn : Func} {p q : Tmp} (h : fn.results = #[.cell p 151, .tmp q]) (tmps : Array Value) (w : World) (g : Nat) (cs : Array Value) (u : Value)
    (hp : tmps.getD p undef = .pointer (some ⟨g, 0, none⟩)) (hq : tmps.getD q undef = u) (hg : w.heap[g]? = some (.cells cs 151 (0, 0))) (hs : cs.size = 8) :
    (results fn tmps).run Try.prog w = .ok (.tuple #[.agg cs, u]) w := by
  have hp' : tmps[p]?.getD undef = .pointer (some ⟨g, 0, none⟩) := by simpa using hp
  have hq' : tmps[q]?.getD undef = u := by simpa using hq
  simp [results, h, hp', hq', asAddr, run_loadVar_row w g 151 151 cs (0, 0) _ hg Try.underlying151 rfl (by rw [hs]; exact info151s)]
def CosF (base wd lim : Nat) (w : World) (cs : Array Value) (f : FS) : Prop := ∃ (bl css : Nat → Nat) (P : List Int) (vr vp vq vk : Value), cs = fcells wd lim f.s vr vp vq vk ∧ CoreM base w f.s P vr vp vq bl css ∧ OwnC base w vk f.k
theorem CosF.one {base wd lim : Nat} {w : World} {cs : Array Value} {f : FS} (h : CosF base wd lim w cs f) : cs.all (·.oneCell') = true := by
  obtain ⟨bl, css, P, vr, vp, vq, vk, rfl, hc, hk⟩ := h
  obtain ⟨A, c, rfl⟩ := owns_form hc.out
  obtain ⟨A1, c1, rfl⟩ := owns_form hc.par
  obtain ⟨A2, c2, rfl⟩ := owns_form hc.que
  obtain ⟨A3, c3, rfl⟩ := owns_form2 hk
  simp [fcells, Value.oneCell']
theorem StFB.cos {K : Nat → Prop} {T : TypeId} {ex : List Value} {bl cs : Nat → Nat} {base b wd lim : Nat} {w : World} {f : FS} (h : StFB K T ex bl cs base b wd lim w f) : ∃ C, CosF base wd lim w C f ∧ w.heap[b]? = some (.cells (C ++ ex.toArray) T (0, 0)) := by
  obtain ⟨-, P, vr, vp, vq, vk, hB, hC, hK, -⟩ := h
  exact ⟨_, ⟨bl, cs, P, vr, vp, vq, vk, rfl, hC, hK⟩, hB.box⟩
theorem CosF.rebox {base wd lim b : Nat} {w1 w2 : World} {cs : Array Value} {f : FS} {T : TypeId} {ex : List Value} {K : Nat → Prop} (h : CosF base wd lim w1 cs f) (hb : Below w1.heap.size w1 w2) (hbox : w2.heap[b]? = some (.cells (cs ++ ex.toArray) T (0, 0))) (hbb : base ≤ b)
    (hK : ∀ k, K k → w1.heap.size ≤ k ∧ k ≠ b ∧ k < w2.heap.size) : StF K T ex base b wd lim w2 f := by
  obtain ⟨bl, css, P, vr, vp, vq, vk, rfl, hc, hk⟩ := h
  refine ⟨bl, css, hbb, P, vr, vp, vq, vk, ⟨hbox⟩, hc.keep (fun k C e _ hC _ => hb.block k (Array.getElem?_eq_some_iff.1 hC).1), owns_below hk hb, ⟨fun k h => (hK k h).2.2, fun h => (hK b h).2.1 rfl, fun k hr h => ?_, fun k hr h => ?_, fun k hr h => ?_, fun k hr h => ?_, fun i hi h => ?_⟩⟩
  · have := owns_lt hc.out hr; have := (hK k h).1; omega
  · have := owns_lt hc.par hr; have := (hK k h).1; omega
  · have := owns_lt hc.que hr; have := (hK k h).1; omega
  · obtain ⟨-, C, hC⟩ := owns_block2 hk k hr
    have := (Array.getElem?_eq_some_iff.1 hC).1; have := (hK k h).1; omega
  · have := (hc.row i hi).2.1.lt; have := (hK _ h).1; omega
theorem CosF.made {w : World} {wd lim : Nat} (base : Nat) : CosF base wd lim w (fcells wd lim nilS (.slice none 0 0) (.slice none 0 0) (.slice none 0 0) (.slice none 0 0)) ⟨nilS, []⟩ :=
  ⟨fun _ => 0, fun _ => 0, [], .slice none 0 0, .slice none 0 0, .slice none 0 0, .slice none 0 0, rfl, ⟨World.ownsRow_nil _ _ _ _, fun i hi => absurd hi (Nat.not_lt_zero _), fun i j hi => absurd hi (Nat.not_lt_zero _), World.ownsRow_nil _ _ _ _, World.ownsRow_nil _ _ _ _, fun i hi => absurd hi (Nat.not_lt_zero _), fun i hi => absurd hi (Nat.not_lt_zero _), (fun r hr => by cases hr), ⟨rfl, fun x hx => absurd hx (Nat.not_lt_zero _)⟩⟩, World.ownsRow_nil _ _ _ _⟩
set_option maxRecDepth 100000 in
theorem pred194 (g B : Nat) (w : World) (hg : g ≤ 16) (hc : w.cell? ⟨B, 0, none⟩ = some (.int .i64 (g : Int))) :
    PredW 194 #[.pointer (some ⟨B, 0, none⟩)] (fun x => -9223372036854775808 ≤ x ∧ x ≤ 9223372036854775807) (letBad g) w := fun x q hx => by
  have hcq : (w.drewN q).cell? ⟨B, 0, none⟩ = some (.int .i64 (g : Int)) := hc
  show Calls Try.prog 194 #[.int .i64 x, .pointer (some ⟨B, 0, none⟩)] (w.drewN q) _
  have h0 : letBad g x = (decide (x = 0) || decide (x < -(g : Int)) || decide ((g : Int) < x)) := rfl
  have H0 := Lib.hid h0
  clear h0
  generalize hW : w.drewN q = W at *
  have HW := Lib.hid hW
  clear hW
  have hg0 : (0 : Int) ≤ (g : Int) := Int.natCast_nonneg _
  have hg1 : (g : Int) ≤ 16 := by omega
  by_cases h1 : x = 0
  · subst h1
    go_enter Try.func194, Try.ntmps194
    go_wp2_with fail
    go_ret
    exact ⟨ret_bool (by rw [H0.out]; simp), q, HW.out.symm⟩
  · have d1 : (x == 0) = false := by simpa using h1
    by_cases h2 : x < -(g : Int)
    · go_enter Try.func194, Try.ntmps194
      go_wp2_with fail
      go_ret
      exact ⟨ret_bool (by rw [H0.out]; simp [h2]), q, HW.out.symm⟩
    · by_cases h3 : (g : Int) < x
      · go_enter Try.func194, Try.ntmps194
        go_wp2_with fail
        go_ret
        exact ⟨ret_bool (by rw [H0.out]; simp [h3]), q, HW.out.symm⟩
      · go_enter Try.func194, Try.ntmps194
        go_wp2_with fail
        go_ret
        exact ⟨ret_bool (by rw [H0.out]; simp [h1, h2, h3]), q, HW.out.symm⟩
theorem eg194 : ∀ args w, (callFunc 194 args).run Try.prog w = .ok (.enter 194 args) w := enters_of Try.func194 (by kernel_rfl) rfl
end Go.Proofs
namespace Go.Proofs
open Go.RowKit Go.Shelf Go.Proofs.Ct Go.Maps
def BeginPost (g : Int) (rels sub : List W) (limit : Int) (w : World) (e : Ending) (w' : World) : Prop :=
  ((givenE g rels sub limit ≠ 0 ∧ e = .returned (.tuple #[.agg zero151, .int .i64 (givenE g rels sub limit)])) ∨
    (givenE g rels sub limit = 0 ∧ ∃ cs, e = .returned (.tuple #[.agg cs, .int .i64 0]) ∧ CosF w.heap.size (2 * g.toNat) limit.toNat w' cs (startF (2 * g.toNat)))) ∧ Below w.heap.size w w'
theorem CosF.keep {base wd lim : Nat} {w w' : World} {cs : Array Value} {f : FS} (h : CosF base wd lim w cs f) (hk : ∀ k, base ≤ k → k < w.heap.size → w'.heap[k]? = w.heap[k]?) : CosF base wd lim w' cs f := by
  obtain ⟨bl, css, P, vr, vp, vq, vk, rfl, hc, hO⟩ := h
  exact ⟨bl, css, P, vr, vp, vq, vk, rfl, hc.keep (fun k C e h1 hC _ => hk k h1 (Array.getElem?_eq_some_iff.1 hC).1), owns_keep hO fun r hr => by
    obtain ⟨h1, C, hC⟩ := owns_block2 hO r hr
    exact hk r h1 (Array.getElem?_eq_some_iff.1 hC).1⟩
theorem CosF.low {base base' wd lim : Nat} {w : World} {cs : Array Value} {f : FS} (h : CosF base wd lim w cs f) (hb : base' ≤ base) : CosF base' wd lim w cs f := by
  obtain ⟨bl, css, P, vr, vp, vq, vk, rfl, hc, hO⟩ := h
  exact ⟨bl, css, P, vr, vp, vq, vk, rfl, ⟨owns_base hc.out hb, fun i hi => let ⟨a, b⟩ := hc.row i hi; ⟨Nat.le_trans hb a, b⟩, hc.inj, owns_base hc.par hb, owns_base hc.que hb, hc.sepP, hc.sepQ, hc.pq, hc.root⟩, owns_base hO hb⟩
theorem any_at {p : W → Bool} {l : List W} {k : Nat} (hk : k < l.length) (h : p (l.getD k []) = true) : l.any p = true := by
  rw [List.getD_eq_getElem?_getD, List.getElem?_eq_getElem hk] at h
  exact List.any_eq_true.2 ⟨_, List.getElem_mem hk, h⟩
set_option maxRecDepth 100000 in
set_option maxHeartbeats 1000000 in
theorem begin141_any (w : World) (vr vs : Value) (g : Int) (rels sub : List W) (limit : Int) (hR : Tab w vr rels) (hS : Tab w vs sub) (hsm : ∀ j, (sub.getD j []).length ≤ 100000) (hsl : sub.length ≤ 1000000) :
    Calls Try.prog 141 #[.agg #[.int .i64 g, vr], vs, .int .i64 limit] w (BeginPost g rels sub limit w) := by
  obtain ⟨Ar, cr, rfl⟩ := Tab.form hR
  obtain ⟨As, cs, rfl⟩ := Tab.form hS
  have H78 : Hid (∀ W, Tab W (.slice Ar rels.length cr) rels → Calls Try.prog 102 #[.agg #[.int .i64 g, .slice Ar rels.length cr]] W fun e w' => (∃ y, e = .returned (.tuple #[.int .i64 (presE g rels), .int .i64 y])) ∧ Below W.heap.size W w') := Lib.hid fun W h => pcheck78_any W _ _ rels h
  have HP : Hid (∀ W, W = (w.alloc (.cells #[.int .i64 g, .slice Ar rels.length cr] 40)).alloc (.cells zero151 151) → Below w.heap.size w W ∧ W.heap[w.heap.size]? = some (.cells #[.int .i64 g, .slice Ar rels.length cr] 40 (0, 0)) ∧ W.heap[w.heap.size + 1]? = some (.cells zero151 151 (0, 0)) ∧ W.heap.size = w.heap.size + 2) := Lib.hid fun W h => by
    subst h
    have h1 : Below w.heap.size w (w.alloc (.cells #[.int .i64 g, .slice Ar rels.length cr] 40)) := (Below.refl _ _).alloc (Nat.le_refl _) _
    have h2 : Below (w.heap.size + 1) (w.alloc (.cells #[.int .i64 g, .slice Ar rels.length cr] 40)) ((w.alloc (.cells #[.int .i64 g, .slice Ar rels.length cr] 40)).alloc (.cells zero151 151)) := (Below.refl _ _).alloc (by simp) _
    have h3 := heap_alloc_new (w.alloc (.cells #[.int .i64 g, .slice Ar rels.length cr] 40)) (.cells zero151 151)
    have h4 : (w.alloc (.cells #[.int .i64 g, .slice Ar rels.length cr] 40)).heap.size = w.heap.size + 1 := by simp
    rw [h4] at h3
    exact ⟨h1.trans (h2.mono (Nat.le_succ _)), (h2.block _ (Nat.lt_succ_self _)).trans (heap_alloc_new w _), h3, by simp⟩
  have HRR := Lib.hid hR
  have HSS := Lib.hid hS
  clear hR hS
  go_enter Try.func141, Try.ntmps141
  go_wp2_with ((with_reducible refine wpList_sel 6 ?_); refine wpList_val rfl (r_alloc151 rfl) ?_)
  generalize hw0 : (w.alloc (.cells #[.int .i64 g, .slice Ar rels.length cr] 40)).alloc (.cells zero151 151) = w0 at *
  obtain ⟨hb0, hbp, hbq, hsz⟩ := HP.out w0 rfl
  have HB0 := Lib.hid hb0
  have HSZ := Lib.hid hsz
  have HBX : Hid (∀ W, Below w0.heap.size w0 W → W.cell? ⟨w.heap.size, 0, none⟩ = some (.int .i64 g) ∧ W.cell? ⟨w.heap.size, 1, none⟩ = some (.slice Ar rels.length cr) ∧ W.heap[w.heap.size + 1]? = some (.cells zero151 151 (0, 0))) := Lib.hid fun W h => by
    obtain ⟨a, b⟩ := cell_of2 ((h.block _ (Array.getElem?_eq_some_iff.1 hbp).1).trans hbp)
    exact ⟨a, b, (h.block _ (Array.getElem?_eq_some_iff.1 hbq).1).trans hbq⟩
  obtain ⟨hc0, hc1, -⟩ := HBX.out w0 (Below.refl _ _)
  have HT0 := Lib.hid (kept_tab.below HRR.out hb0)
  clear hw0 hb0 hbp hbq hsz HP
  by_cases he : presE g rels = 0
  · obtain ⟨gn, rfl, hg1, hg16, hrl, hrg⟩ := presE_good he
    have d1 : (presE (gn : Int) rels != 0) = false := by simp [he]
    have hg0 : (1 : Int) ≤ (gn : Int) := by omega
    have hgI : (gn : Int) ≤ 16 := by omega
    have HBAD : Hid (badArgs gn sub limit = true → givenE gn rels sub limit = 2) := Lib.hid fun h => by unfold givenE; rw [if_neg (by rw [he]; simp), Int.toNat_natCast, if_pos h]
    have HOK : Hid (badArgs gn sub limit = false → givenE gn rels sub limit = 0) := Lib.hid fun h => by unfold givenE; rw [if_neg (by rw [he]; simp), Int.toNat_natCast, if_neg (by rw [h]; simp)]
    clear hrg he hrl
    generalize hxe : presE (gn : Int) rels = z at *
    clear hxe
    go_wp2_with (go_at_call 102; (with_reducible refine (H78.out w0 HT0.out).mono ?_); rintro e w1 ⟨⟨y, rfl⟩, hb⟩
                 obtain ⟨hc0', hc1', hq1⟩ := HBX.out _ hb
                 have HQ1 := Lib.hid hq1
                 have HB1 := Lib.hid hb
                 clear hb hq1)
    have HANY : Hid (∀ q j, j < sub.length → ∀ u, IntsAt w1 u (sub.getD j []) → Calls Try.prog 98 #[u, .func (.func 194) #[] #[.pointer (some ⟨w.heap.size, 0, none⟩)]] (w1.drewN q) fun e w' => e = .returned (.bool ((sub.getD j []).any (letBad gn))) ∧ ∃ q, w' = w1.drewN q) := Lib.hid fun q j hj u hu => (has74_any 194 _ _ _ (w1.drewN q) eg194 (pred194 gn w.heap.size (w1.drewN q) hg16 hc0') u (sub.getD j []) (hu.below (below_drewN (Below.refl _ _) _)) (fun x hx => hu.2 x hx)).mono fun e w' ⟨h1, q2, h2⟩ => ⟨h1, q + q2, by rw [h2, World.drewN_drewN]⟩
    have HTS : Hid (Tab w1 (.slice As sub.length cs) sub) := Lib.hid (kept_tab.below HSS.out (HB0.out.trans (HB1.out.mono HB0.out.size)))
    go_wp2_with fail
    go_loopw [10, 25] (fun l i wx => ∃ k : Nat, i = .int .i64 (k : Int) ∧ k ≤ sub.length ∧ l = .int .i64 ((sumTo sub k : Nat) : Int) ∧ Hid (∀ j, j < k → ((sub.getD j []).any (letBad gn)) = false) ∧ ∃ q, wx = w1.drewN q) (fun _ i _ => sub.length - (intOf i).toNat)
    case atStart => exact ⟨0, rfl, Nat.zero_le _, rfl, Lib.hid (fun j hj => absurd hj (Nat.not_lt_zero _)), 0, rfl⟩
    case round =>
      obtain ⟨k, rfl, hk, rfl, HA, q, rfl⟩ := hrel
      have hk0 : (0 : Int) ≤ (k : Int) := Int.natCast_nonneg _
      have hsk := sumTo_le' hsm k
      have hsk0 : (0 : Int) ≤ ((sumTo sub k : Nat) : Int) := Int.natCast_nonneg _
      have hsk1 : ((sumTo sub k : Nat) : Int) ≤ 100000000000 := by
        have : k * 100000 ≤ 1000000 * 100000 := Nat.mul_le_mul_right _ (by omega)
        omega
      clear hsk
      have HQ2 : Hid ((w1.drewN q).heap[w.heap.size + 1]? = some (.cells zero151 151 (0, 0))) := HQ1
      by_cases hlt : k < sub.length
      · have hltI : (k : Int) < (sub.length : Int) := by omega
        obtain ⟨bs, os, rfl, hcell⟩ := HTS.out.cells (by omega)
        obtain ⟨u, hu, hI⟩ := hcell k hlt
        have hul : (w1.drewN q).cell? ⟨bs, os + k, none⟩ = some u := hu
        have HCA := Lib.hid (HANY.out q k hlt u hI)
        obtain ⟨Au, cu, rfl, hu1, hu2, -⟩ := hI.open_
        have hlu := hsm k
        have HSU : Hid (sumTo sub (k + 1) = sumTo sub k + (sub.getD k []).length) := Lib.hid rfl
        have HAT : Hid ((sub.getD k []).any (letBad gn) = true → badArgs gn sub limit = true) := Lib.hid fun h => by
          have := any_at (p := fun w => w.any (letBad gn)) hlt h
          unfold badArgs; rw [this]; simp
        cases hbad : (sub.getD k []).any (letBad gn) with
        | true =>
          have HE : Hid (givenE gn rels sub limit = 2) := Lib.hid (HBAD.out (HAT.out hbad))
          rw [hbad] at HCA
          clear hbad HAT HBAD HOK
          generalize hgl : (sub.getD k []).length = L at *
          have hl0 : (0 : Int) ≤ (L : Int) := Int.natCast_nonneg _
          have hl1 : (L : Int) ≤ 100000 := by omega
          clear hcell hI hu1 hu2 hlu hgl hu
          go_wp2_with (first
            | (go_at_call 98; (with_reducible refine HCA.out.mono ?_); rintro e w2 ⟨rfl, q2, rfl⟩
               have HQ3 : Hid ((w1.drewN q2).heap[w.heap.size + 1]? = some (.cells zero151 151 (0, 0))) := HQ1)
            | ((with_reducible refine wpList_sel 36 ?_); refine wpList_val rfl (r_build151 rfl) ?_; refine wpList_skip rfl (r_store151 (.tmp 6) (.tmp 36) rfl (w.heap.size + 1) zero151 zero151 rfl rfl HQ3.out rfl rfl zero151_one) ?_))
          (try simp only [Exit.inBlock, Exit.then])
          refine bodyPost_ret (results_151_tmp (p := 6) (q := 7) rfl _ _ (w.heap.size + 1) zero151 (.int .i64 2) rfl rfl (setRow_heap _ _ _ _ _ _ HQ3.out) rfl) rfl ⟨.inl ⟨by rw [HE.out]; decide, by rw [HE.out]⟩, below_setRow (below_drewN (HB0.out.trans (HB1.out.mono HB0.out.size)) _) (Nat.le_succ _) _⟩
        | false =>
          rw [hbad] at HCA
          have HA2 := Lib.hid (all_succ HA.out hbad)
          clear hbad HAT
          generalize hgl : (sub.getD k []).length = L at *
          have hl0 : (0 : Int) ≤ (L : Int) := Int.natCast_nonneg _
          have hl1 : (L : Int) ≤ 100000 := by omega
          clear hcell hI hu1 hu2 hlu hgl hu
          go_wp2_with (go_at_call 98; (with_reducible refine HCA.out.mono ?_); rintro e w2 ⟨rfl, q2, rfl⟩)
          go_roundw
          case rel => exact ⟨k + 1, by go_num, by omega, by rw [HSU.out]; go_num, HA2, (by first | exact ⟨_, rfl⟩ | exact ex_drewN)⟩
          case measure => simp [intOf]; omega
      · obtain rfl : k = sub.length := by omega
        clear hlt
        have HNB : Hid ((sub.any fun w => w.any (letBad gn)) = false) := Lib.hid (any_false_ofR HA.out)
        have HW : Hid (Below w.heap.size w (w1.drewN q)) := Lib.hid (below_drewN (HB0.out.trans (HB1.out.mono HB0.out.size)) _)
        have hlb0 : (0 : Int) ≤ (sub.length : Int) := Int.natCast_nonneg _
        by_cases hbad : (100 : Int) < (sub.length : Int) ∨ (4000 : Int) < ((sumTo sub sub.length : Nat) : Int) ∨ limit < 1 ∨ 20000 < limit
        · have HE : Hid (givenE gn rels sub limit = 2) := Lib.hid (HBAD.out (by unfold badArgs; simp; omega))
          clear HBAD HOK
          by_cases h1 : (100 : Int) < (sub.length : Int)
          · go_wp2_with ((with_reducible refine wpList_sel 53 ?_); refine wpList_val rfl (r_build151 rfl) ?_; refine wpList_skip rfl (r_store151 (.tmp 6) (.tmp 53) rfl (w.heap.size + 1) zero151 zero151 rfl rfl HQ2.out rfl rfl zero151_one) ?_)
            (try simp only [Exit.inBlock, Exit.then])
            refine bodyPost_ret (results_151_tmp (p := 6) (q := 7) rfl _ _ (w.heap.size + 1) zero151 (.int .i64 2) rfl rfl (setRow_heap _ _ _ _ _ _ HQ2.out) rfl) rfl ⟨.inl ⟨by rw [HE.out]; decide, by rw [HE.out]⟩, below_setRow HW.out (Nat.le_succ _) _⟩
          · by_cases h2 : (4000 : Int) < ((sumTo sub sub.length : Nat) : Int)
            · go_wp2_with ((with_reducible refine wpList_sel 53 ?_); refine wpList_val rfl (r_build151 rfl) ?_; refine wpList_skip rfl (r_store151 (.tmp 6) (.tmp 53) rfl (w.heap.size + 1) zero151 zero151 rfl rfl HQ2.out rfl rfl zero151_one) ?_)
              (try simp only [Exit.inBlock, Exit.then])
              refine bodyPost_ret (results_151_tmp (p := 6) (q := 7) rfl _ _ (w.heap.size + 1) zero151 (.int .i64 2) rfl rfl (setRow_heap _ _ _ _ _ _ HQ2.out) rfl) rfl ⟨.inl ⟨by rw [HE.out]; decide, by rw [HE.out]⟩, below_setRow HW.out (Nat.le_succ _) _⟩
            · by_cases h3 : limit < 1
              · go_wp2_with ((with_reducible refine wpList_sel 53 ?_); refine wpList_val rfl (r_build151 rfl) ?_; refine wpList_skip rfl (r_store151 (.tmp 6) (.tmp 53) rfl (w.heap.size + 1) zero151 zero151 rfl rfl HQ2.out rfl rfl zero151_one) ?_)
                (try simp only [Exit.inBlock, Exit.then])
                refine bodyPost_ret (results_151_tmp (p := 6) (q := 7) rfl _ _ (w.heap.size + 1) zero151 (.int .i64 2) rfl rfl (setRow_heap _ _ _ _ _ _ HQ2.out) rfl) rfl ⟨.inl ⟨by rw [HE.out]; decide, by rw [HE.out]⟩, below_setRow HW.out (Nat.le_succ _) _⟩
              · have h4 : 20000 < limit := by omega
                clear hbad
                go_wp2_with ((with_reducible refine wpList_sel 53 ?_); refine wpList_val rfl (r_build151 rfl) ?_; refine wpList_skip rfl (r_store151 (.tmp 6) (.tmp 53) rfl (w.heap.size + 1) zero151 zero151 rfl rfl HQ2.out rfl rfl zero151_one) ?_)
                (try simp only [Exit.inBlock, Exit.then])
                refine bodyPost_ret (results_151_tmp (p := 6) (q := 7) rfl _ _ (w.heap.size + 1) zero151 (.int .i64 2) rfl rfl (setRow_heap _ _ _ _ _ _ HQ2.out) rfl) rfl ⟨.inl ⟨by rw [HE.out]; decide, by rw [HE.out]⟩, below_setRow HW.out (Nat.le_succ _) _⟩
        · have HE : Hid (givenE gn rels sub limit = 0) := Lib.hid (HOK.out (by unfold badArgs; rw [HNB.out]; simp; omega))
          clear HBAD HOK
          obtain ⟨lim, rfl⟩ : ∃ lim : Nat, limit = (lim : Int) := ⟨limit.toNat, by omega⟩
          have h1 : ¬ (100 : Int) < (sub.length : Int) := fun h => hbad (.inl h)
          have h2 : ¬ (4000 : Int) < ((sumTo sub sub.length : Nat) : Int) := fun h => hbad (.inr (.inl h))
          have h3 : ¬ (lim : Int) < 1 := fun h => hbad (.inr (.inr (.inl h)))
          have h4 : ¬ (20000 : Int) < (lim : Int) := fun h => hbad (.inr (.inr (.inr h)))
          clear hbad
          generalize hw2 : w1.drewN q = w2 at *
          have hc2 : w2.cell? ⟨w.heap.size, 0, none⟩ = some (.int .i64 (gn : Int)) := by rw [← hw2]; exact hc0'
          have hz2 : w.heap.size + 1 < w2.heap.size := (Array.getElem?_eq_some_iff.1 HQ2.out).1
          clear hw2 HANY HTS HQ1 HB1 HA hc0' hc1'
          have e2 : ((2 * gn : Nat) : Int) = 2 * (gn : Int) := by omega
          have hADD : Calls Try.prog 195 #[.pointer (some ⟨w2.heap.size, 0, none⟩)] (w2.alloc (.cells #[.int .i64 (2 * (gn : Int)), .int .i64 (lim : Int), .slice none 0 0, .slice none 0 0, .slice none 0 0, .slice none 0 0, .int .i64 0, .int .i64 0] 151)) fun e w' => e = .returned (.int .i64 0) ∧ StF (fun _ => False) 151 [] w2.heap.size w2.heap.size (2 * gn) lim w' (startF (2 * gn)) ∧ Below w2.heap.size w2 w' := by
            have hal : Below w2.heap.size w2 (w2.alloc (.cells #[.int .i64 (2 * (gn : Int)), .int .i64 (lim : Int), .slice none 0 0, .slice none 0 0, .slice none 0 0, .slice none 0 0, .int .i64 0, .int .i64 0] 151)) := (Below.refl _ _).alloc (Nat.le_refl _) _
            have hnew := heap_alloc_new w2 (.cells #[.int .i64 (2 * (gn : Int)), .int .i64 (lim : Int), .slice none 0 0, .slice none 0 0, .slice none 0 0, .slice none 0 0, .int .i64 0, .int .i64 0] 151)
            obtain ⟨bl, css, hst⟩ := (CosF.made (w := w2) (wd := 2 * gn) (lim := lim) w2.heap.size).rebox (T := 151) (ex := []) (b := w2.heap.size) (K := fun _ => False) hal (by rw [hnew]; simp [fcells, nilS, e2]) (Nat.le_refl _) (fun k h => h.elim)
            refine (add195_any (fun _ => False) 151 [] bl css gn (2 * gn) w2.heap.size w2.heap.size lim (by omega) _ ⟨nilS, []⟩ ⟨by decide, by decide, by decide⟩ (inv_nil gn) hst hal.size (Nat.zero_le _) (by decide) (by decide)).mono fun e w' ⟨h1, h2, h3⟩ => ⟨h1, h2, hal.trans h3.1⟩
          have HADD := Lib.hid hADD
          clear hADD e2
          go_wp2_with (first
            | ((with_reducible refine wpList_sel 58 ?_); refine wpList_val rfl (r_build151_2 (.tmp 56) (.tmp 57) (2 * (gn : Int)) (lim : Int) rfl rfl rfl) ?_; refine wpList_val rfl (r_alloc151 rfl) ?_; refine wpList_skip rfl (r_store151 (.tmp 13) (.tmp 58) rfl w2.heap.size zero151 _ rfl rfl (heap_alloc_new w2 _) rfl rfl (by simp [Value.oneCell'])) ?_; rw [World.setRow_alloc_new])
            | (go_at_call 195; (with_reducible refine HADD.out.mono ?_); rintro e w3 ⟨rfl, hs3, hb3⟩
               obtain ⟨bl3, cs3, hs3⟩ := hs3
               obtain ⟨C, hC, hbx⟩ := hs3.cos
               have HC := Lib.hid hC
               obtain ⟨bl, css, P, vr, vp, vq, vk, rfl, -⟩ := hC
               have HBXX := Lib.hid hbx
               have HB3 := Lib.hid hb3
               have HQ3 : Hid (w3.heap[w.heap.size + 1]? = some (.cells zero151 151 (0, 0))) := Lib.hid ((hb3.block _ hz2).trans HQ2.out)
               clear hs3 hb3 hbx)
            | ((with_reducible refine wpList_sel 60 ?_); refine wpList_val rfl (r_load151 (.tmp 13) w2.heap.size _ _ _ _ _ _ _ _ rfl rfl HBXX.out) ?_; refine wpList_skip rfl (r_store151 (.tmp 6) (.tmp 60) rfl (w.heap.size + 1) zero151 _ rfl rfl HQ3.out rfl rfl HC.out.one) ?_))
          (try simp only [Exit.inBlock, Exit.then])
          refine bodyPost_ret (results_151_tmp (p := 6) (q := 7) rfl _ _ (w.heap.size + 1) _ (.int .i64 0) rfl rfl (setRow_heap _ _ _ _ _ _ HQ3.out) rfl) rfl ⟨.inr ⟨HE.out, _, rfl, ?_⟩, below_setRow (HW.out.trans (HB3.out.mono HW.out.size)) (Nat.le_succ _) _⟩
          rw [Int.toNat_natCast, Int.toNat_natCast]
          exact (HC.out.keep fun k h1 _ => setRow_other _ _ k _ (by omega)).low HW.out.size
  · have d1 : (presE g rels != 0) = true := by simpa using he
    have HE : Hid (givenE g rels sub limit = presE g rels ∧ presE g rels ≠ 0) := Lib.hid ⟨by unfold givenE; rw [if_pos he], he⟩
    clear he
    generalize presE g rels = x at *
    go_wp2_with (first
      | (go_at_call 102; (with_reducible refine (H78.out w0 HT0.out).mono ?_); rintro e w1 ⟨⟨y, rfl⟩, hb⟩
         have HB1 := Lib.hid hb
         have HG1 := Lib.hid (HBX.out _ hb).2.2
         clear hb)
      | ((with_reducible refine wpList_sel 21 ?_); refine wpList_val rfl (r_build151 rfl) ?_; refine wpList_val rfl (r_move (.tmp 8) rfl rfl) ?_; refine wpList_skip rfl (r_store151 (.tmp 6) (.tmp 21) rfl (w.heap.size + 1) zero151 zero151 rfl rfl HG1.out rfl rfl zero151_one) ?_))
    (try simp only [Exit.inBlock, Exit.then])
    refine bodyPost_ret (results_151_tmp (p := 6) (q := 7) rfl _ _ (w.heap.size + 1) zero151 (.int .i64 x) rfl rfl (setRow_heap _ _ _ _ _ _ HG1.out) rfl) rfl ⟨.inl ⟨by rw [HE.out.1]; exact HE.out.2, by rw [HE.out.1]⟩, below_setRow (HB0.out.trans (HB1.out.mono HB0.out.size)) (Nat.le_succ _) _⟩
end Go.Proofs
namespace Go.Proofs
open Go.RowKit Go.Shelf Go.Proofs.Ct Go.Maps
theorem ta_nilF (w : World) : (Instr.typeAssert .nilIface 20 196 true).run Try.prog w = .ok (.tuple #[.agg #[], .bool false]) w := by kernel_rfl
theorem ta_fullF (w : World) : (Instr.typeAssert (.iface 196 (.agg #[])) 20 196 true).run Try.prog w = .ok (.tuple #[.agg #[], .bool true]) w := by kernel_rfl
theorem alloc196 (w : World) : (Instr.alloc 196 true (.tuple #[])).run Try.prog w = .ok (.pointer (some ⟨w.heap.size, 0, none⟩)) (w.alloc (.cells #[] 196)) := by kernel_rfl
set_option maxRecDepth 100000 in
theorem ended_idle (p q r : Addr) (w : World) :
    CallsD Try.prog 142 #[.pointer (some p), .pointer (some q), .pointer (some r)] .returning w fun e u' w' => e = .returned (.tuple #[]) ∧ u' = .returning ∧ Below w.heap.size w w' := by
  refine callsD_of_wpS Try.func142 rfl fun c₀ cs hu => ?_
  apply wpS_seq
  apply wpS_region
  simp [wpOpsS, go_sem, recoverD, hu, Try.ntmps142, Exit.thenS]
  have harr : (#[.pointer (some p), .pointer (some q), .pointer (some r)] ++ ((Array.replicate 23 undef).setIfInBounds 6 Value.nilIface).setIfInBounds 3 Value.nilIface : Array Value) = #[.pointer (some p), .pointer (some q), .pointer (some r), undef, undef, undef, .nilIface, undef, undef, .nilIface, undef, undef, undef, undef, undef, undef, undef, undef, undef, undef, undef, undef, undef, undef, undef, undef] := by kernel_rfl
  rw [harr]
  refine wpS_of_wp ?_
  have h1 := ta_nilF
  have h2 := alloc196
  have h3 := neq_nil
  go_wp2_with fail
  have hB : Below w.heap.size w (w.alloc (.cells #[] 196)) := (Below.refl _ _).alloc (Nat.le_refl _) _
  cases c₀
  simp_all [bodyPostS, results, Try.results142]
set_option maxRecDepth 100000 in
theorem ended_full (q base : Nat) (w : World) (v : Value) (a b c e : Int) (hq : base ≤ q) (h : ResC q w v a b c e) :
    CallsD Try.prog 142 #[.pointer (some ⟨q, 0, none⟩), .pointer (some ⟨q + 1, 0, none⟩), .pointer (some ⟨q + 1 + 1, 0, none⟩)] (.panicking fullF) w fun e u' w' => e = .returned (.tuple #[]) ∧ u' = .panicking [{ v := .iface 196 (.agg #[]), recovered := true }] ∧ ResC q w' (.slice none 0 0) 0 0 0 12 ∧ Below base w w' := by
  have hlt := h.lt
  have hB : Below w.heap.size w (w.alloc (.cells #[] 196)) := (Below.refl _ _).alloc (Nat.le_refl _) _
  obtain ⟨c0, c1, c2, c3, c4, f0, f1, f2, f3, f4⟩ := h.below hlt hB
  refine callsD_of_wpS Try.func142 rfl fun c₀ cs hu => ?_
  apply wpS_seq
  apply wpS_region
  simp [wpOpsS, go_sem, recoverD, hu, Try.ntmps142, Exit.thenS, fullF]
  have harr : (#[.pointer (some ⟨q, 0, none⟩), .pointer (some ⟨q + 1, 0, none⟩), .pointer (some ⟨q + 1 + 1, 0, none⟩)] ++ ((Array.replicate 23 undef).setIfInBounds 6 (Value.iface 196 (.agg #[]))).setIfInBounds 3 (Value.iface 196 (.agg #[])) : Array Value) = #[.pointer (some ⟨q, 0, none⟩), .pointer (some ⟨q + 1, 0, none⟩), .pointer (some ⟨q + 1 + 1, 0, none⟩), undef, undef, undef, .iface 196 (.agg #[]), undef, undef, .iface 196 (.agg #[]), undef, undef, undef, undef, undef, undef, undef, undef, undef, undef, undef, undef, undef, undef, undef, undef] := by kernel_rfl
  rw [harr]
  refine wpS_of_wp ?_
  have h1 := ta_fullF
  have h2 := alloc196
  have h3 := neq_nil
  have HR := Lib.hid ((h.below hlt hB).set (.slice none 0 0) 0 0 0 12)
  have HB := Lib.hid (setR_below (hB.mono (by omega)) hq (.slice none 0 0) 0 0 0 12)
  clear h hB
  go_wp2_with fail
  have hres := HR.out
  have hbel := HB.out
  unfold setR at hres hbel
  cases c₀
  simp_all [bodyPostS, results, Try.results142]
end Go.Proofs
namespace Go.Proofs.Ct
def rot (w : W) (k : Nat) : W := w.drop k ++ w.take k
theorem rotTo_mem {l : List W} {w : W} {x : Int} {v : W} : ∀ {k : Nat}, v ∈ rotTo l w x k ↔ v ∈ l ∨ ∃ j, j < k ∧ w.getD j 0 = x ∧ v = rot w j
  | 0 => ⟨.inl, fun h => h.elim id fun ⟨j, h, _⟩ => absurd h (Nat.not_lt_zero _)⟩
  | k + 1 => by
    have ih := rotTo_mem (l := l) (w := w) (x := x) (v := v) (k := k)
    have e : rotTo l w x (k + 1) = if w.getD k 0 = x ∧ rot w k ∉ rotTo l w x k then rotTo l w x k ++ [rot w k] else rotTo l w x k := rfl
    rw [e]
    constructor
    · intro h
      split at h
      · rename_i hh
        rcases List.mem_append.1 h with h | h
        · rcases ih.1 h with h | ⟨j, h1, h2⟩
          · exact .inl h
          · exact .inr ⟨j, by omega, h2⟩
        · exact .inr ⟨k, by omega, hh.1, List.mem_singleton.1 h⟩
      · rcases ih.1 h with h | ⟨j, h1, h2⟩
        · exact .inl h
        · exact .inr ⟨j, by omega, h2⟩
    · intro h
      have hold : v ∈ rotTo l w x k → v ∈ if w.getD k 0 = x ∧ rot w k ∉ rotTo l w x k then rotTo l w x k ++ [rot w k] else rotTo l w x k := fun h => by
        split
        · exact List.mem_append_left _ h
        · exact h
      rcases h with h | ⟨j, h1, h2, h3⟩
      · exact hold (ih.2 (.inl h))
      · rcases Nat.lt_or_ge j k with h4 | h4
        · exact hold (ih.2 (.inr ⟨j, h4, h2, h3⟩))
        · obtain rfl : j = k := by omega
          subst h3
          by_cases hm : rot w j ∈ rotTo l w x j
          · exact hold hm
          · rw [if_pos ⟨h2, hm⟩]
            exact List.mem_append_right _ (List.mem_singleton_self _)
theorem wordsTo2_mem {rels : List W} {x : Int} {v : W} : ∀ {i : Nat}, v ∈ wordsTo2 rels x i ↔ ∃ m j, m < i ∧ j < (rels.getD m []).length ∧ (((rels.getD m []).getD j 0 = x ∧ v = rot (rels.getD m []) j) ∨ ((inv (rels.getD m [])).getD j 0 = x ∧ v = rot (inv (rels.getD m [])) j))
  | 0 => ⟨(fun h => by cases h), fun ⟨m, j, h, _⟩ => absurd h (Nat.not_lt_zero _)⟩
  | i + 1 => by
    have ih := wordsTo2_mem (rels := rels) (x := x) (v := v) (i := i)
    have e : wordsTo2 rels x (i + 1) = rotTo (rotTo (wordsTo2 rels x i) (rels.getD i []) x (rels.getD i []).length) (inv (rels.getD i [])) x (inv (rels.getD i [])).length := rfl
    rw [e, rotTo_mem, rotTo_mem, ih, length_inv]
    constructor
    · rintro ((⟨m, j, h1, h2⟩ | ⟨j, h1, h2⟩) | ⟨j, h1, h2⟩)
      · exact ⟨m, j, by omega, h2⟩
      · exact ⟨i, j, by omega, h1, .inl h2⟩
      · exact ⟨i, j, by omega, h1, .inr h2⟩
    · rintro ⟨m, j, h1, h2, h3⟩
      rcases Nat.lt_or_ge m i with h4 | h4
      · exact .inl (.inl ⟨m, j, h4, h2, h3⟩)
      · obtain rfl : m = i := by omega
        rcases h3 with h3 | h3
        · exact .inl (.inr ⟨j, h2, h3⟩)
        · exact .inr ⟨j, h2, h3⟩
end Go.Proofs.Ct
