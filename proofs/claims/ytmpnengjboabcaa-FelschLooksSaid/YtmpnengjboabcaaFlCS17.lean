/- (*felsch.deducer).fill; The pairs and the words of a run of Felsch's strategy, in memory; What of a run of Felsch's strategy becomes less, counted in memory; (*felsch.deducer).deduce. -/
import Derived.Test.YtmpnengjboabcaaFlCS16
import Derived.Test.YtmpnengjboabcaaFlCS9
import Derived.Test.YtmpnengjboabcaaFlCS4
import Derived.Test.YtmpnengjboabcaaFlCS6
import Derived.Test.YtmpnengjboabcaaFlCS15
namespace Go.Proofs
open Go.RowKit Go.Shelf Go.Proofs.Ct Go.Maps
theorem StF.rowsIn {K : Nat → Prop} {T : TypeId} {ex : List Value} {base b m lim : Nat} {w : World} {f : FS} (h : StF K T ex base b m lim w f) : rowsIn b w = f.s.t.length := by
  obtain ⟨bl, cs, h⟩ := h
  obtain ⟨A, c, hc⟩ := h.rows
  unfold Go.Proofs.rowsIn
  rw [hc]
set_option maxRecDepth 100000 in
set_option maxHeartbeats 4000000 in
theorem fill144_any (K : Nat → Prop) (T : TypeId) (ex : List Value) (g m base b lim : Nat) (hm : m = 2 * g) (w : World) (f : FS) (u : Value) (ws : W) (hT : TyF T) (hF : Fine g f) (hG : FGood g lim f) (hS : StF K T ex base b m lim w f) (hbw : base ≤ w.heap.size) (hlim : lim ≤ 1000) (hn : f.s.t.length ≤ lim)
    (hu : ∀ W, Keeps base K w W → IntsAt W u ws) (hl : LOk g ws) (hwl : ws.length ≤ 1000000) (h0 : 0 < f.s.t.length) (h00 : f.s.rp 0 = 0) :
    Calls Try.prog 144 #[.pointer (some ⟨b, 0, none⟩), u] w fun e w' => ((∃ f', fillFS m lim f 0 ws = some f' ∧ e = .returned (.tuple #[]) ∧ StF K T ex base b m lim w' f' ∧ Fine g f') ∨ (fillFS m lim f 0 ws = none ∧ e = .panicked fullF)) ∧ Keeps base K w w' := by
  have HREL : Hid (StF K T ex base b m lim w f ∧ Fine g f ∧ FGood g lim f ∧ f.s.t.length ≤ lim ∧ 0 < f.s.t.length ∧ f.s.rp 0 = 0) := Lib.hid ⟨hS, hF, hG, hn, h0, h00⟩
  generalize hfe : fillFS m lim f 0 ws = F at *
  have HBW := Lib.hid hbw
  have HUU := Lib.hid hu
  have HL := Lib.hid hl
  have HM := Lib.hid hm
  have HT := Lib.hid hT
  clear hF hG hS hu hl hn hbw h0 h00 hT
  have HFE := Lib.hid hfe
  clear hfe
  go_enter Try.func144, Try.ntmps144
  go_wp2_with fail
  go_loopw [4] (fun _ wr => ∃ f1 : FS, Hid (StF K T ex base b m lim wr f1 ∧ Fine g f1 ∧ FGood g lim f1 ∧ f1.s.t.length ≤ lim ∧ 0 < f1.s.t.length ∧ f1.s.rp 0 = 0) ∧ Hid (fillFS m lim f1 0 ws = F) ∧ Hid (Keeps base K w wr)) (fun _ wr => lim + 1 - rowsIn b wr)
  case atStart => exact ⟨f, HREL, HFE, Lib.hid (Keeps.refl _ _ _)⟩
  case round =>
    obtain ⟨f1, HI, HF1, HB⟩ := hrel
    clear HREL HFE
    obtain ⟨⟨bl, cs, h1⟩, h2, h3, h4, h5, h6⟩ := HI.out
    obtain ⟨k1, k2⟩ := scan_F h3.rest h5 h6 HL.out
    rw [← HM.out] at k1 k2
    have hstep := fillFS_step (m := m) (r := 0) (w := ws) h4
    rw [HF1.out] at hstep
    have hkk := h2.k
    rw [← HM.out] at hkk
    have HSC := Lib.hid (scan196_any K T ex bl cs g m base b lim 0 HM.out h2.g1 h2.g16 wr f1 u ws HT.out h2.rest.rest h1 (Nat.le_trans HBW.out HB.out.size) (by omega) (HUU.out wr HB.out) HL.out hwl h5 hkk)
    cases hsc : scanF m f1 0 ws with
    | mk f2 o =>
      rw [hsc] at HSC hstep
      rw [hsc] at k1 k2
      cases o with
      | none =>
        have HE : Hid (F = some f2) := Lib.hid hstep
        have HFN : Hid (Fine g f2) := Lib.hid (h2.ext ⟨k1.1, k1.2.1, k1.2.2.1, k1.2.2.2.1, k1.2.2.2.2⟩)
        have HSC' : Hid (Calls Try.prog 196 #[.pointer (some ⟨b, 0, none⟩), .int .i64 0, u] wr fun e w' => e = .returned (.tuple #[.int .i64 0, .int .i64 0, .bool false]) ∧ StFB K T ex bl cs base b m lim w' f2 ∧ Keeps base K wr w') := Lib.hid HSC.out
        clear k1 k2 hstep HSC h1 h2 h3 h4 h5 h6 hsc hkk
        go_wp2_with (first
          | (go_at_call 196; (with_reducible refine HSC'.out.mono ?_); rintro E w1 ⟨rfl, hs1, hb1⟩
             have HS1 := Lib.hid hs1
             have HB1 := Lib.hid (HB.out.trans hb1)
             clear hs1 hb1))
        try simp only [Exit.inBlock, Exit.then]
        refine bodyPost_ret (results_none rfl _ _ _) rfl ?_
        exact ⟨.inl ⟨f2, HE.out, rfl, ⟨bl, cs, HS1.out⟩, HFN.out⟩, HB1.out⟩
      | some fc =>
        obtain ⟨z, c⟩ := fc
        obtain ⟨e1, j1, j2, j3, j4⟩ := k2 _ _ rfl
        have e1 : f2 = f1 := e1
        subst e1
        have HSC' : Hid (Calls Try.prog 196 #[.pointer (some ⟨b, 0, none⟩), .int .i64 0, u] wr fun e w' => e = .returned (.tuple #[.int .i64 (z : Int), .int .i64 (c : Int), .bool true]) ∧ StFB K T ex bl cs base b m lim w' f2 ∧ Keeps base K wr w') := Lib.hid HSC.out
        have hcm : c < m := j2
        have j2 : c < 2 * g := by rw [← HM.out]; exact hcm
        have hn1 := h2.n
        have hk1 : f2.k.length ≤ 1000000000000 := by have h := h2.k; omega
        by_cases hfull : lim ≤ f2.s.t.length
        · have HE : Hid (F = none) := Lib.hid (by rw [hstep]; exact if_pos hfull)
          have HD : Hid (∀ W, StFB K T ex bl cs base b m lim W f2 → base ≤ W.heap.size → Calls Try.prog 197 #[.pointer (some ⟨b, 0, none⟩), .int .i64 (z : Int), .int .i64 (c : Int)] W fun e w' => e = .panicked fullF ∧ Keeps base K W w') := Lib.hid fun W h hw =>
            define197_full K T ex bl cs m base b lim z c W f2 h hw (by omega) hfull
          clear k1 k2 hstep HSC h1 h2 h3 h4 h5 h6 hsc j1 j2 j3 j4 hn1 hk1 hfull hcm hkk
          go_wp2_with (first
            | (go_at_call 196; (with_reducible refine HSC'.out.mono ?_); rintro E w1 ⟨rfl, hs1, hb1⟩
               have HS1 := Lib.hid hs1
               have HB1 := Lib.hid (HB.out.trans hb1)
               clear hs1 hb1)
            | (go_at_call 197; (with_reducible refine (HD.out _ HS1.out (Nat.le_trans HBW.out HB1.out.size)).mono ?_); rintro E w2 ⟨rfl, hb2⟩
               have HB2 := Lib.hid (HB1.out.trans hb2)
               clear hb2))
          exact ⟨rfl, .inr ⟨HE.out, rfl⟩, HB2.out⟩
        · have HE : Hid (fillFS m lim (defF m f2 z c) 0 ws = F) := Lib.hid (by rw [hstep]; exact (if_neg hfull).symm)
          have HD : Hid (∀ W, StFB K T ex bl cs base b m lim W f2 → base ≤ W.heap.size → Calls Try.prog 197 #[.pointer (some ⟨b, 0, none⟩), .int .i64 (z : Int), .int .i64 (c : Int)] W fun e w' => e = .returned (.tuple #[]) ∧ StF K T ex base b m lim w' (defF m f2 z c) ∧ Keeps base K W w') := Lib.hid fun W h hw =>
            define197_any K T ex bl cs g m base b lim z c HM.out h2.g16 W f2 HT.out h2.rest.rest h hw (by omega) j1 hcm (by omega) (by omega) hk1
          have hgd := (h3.defn j1 j2 j3 j4 (by omega)).1
          have HN : Hid (Fine g (defF m f2 z c) ∧ FGood g lim (defF m f2 z c) ∧ (defF m f2 z c).s.t.length ≤ lim ∧ 0 < (defF m f2 z c).s.t.length ∧ (defF m f2 z c).s.rp 0 = 0) := Lib.hid (by
            have hln : (defF m f2 z c).s.t.length = f2.s.t.length + 1 := length_def m z c
            refine ⟨?_, ?_, by omega, by omega, ?_⟩
            · rw [HM.out]
              exact h2.defn hgd.rest (by omega)
            · rw [HM.out]
              exact hgd
            · show (defS m f2.s z c).rp 0 = 0
              rw [rp_def_old h2.rest.rest.inv m z c h5]
              exact h6)
          have HRW : Hid (rowsIn b wr = f2.s.t.length) := Lib.hid (StF.rowsIn ⟨bl, cs, h1⟩)
          have HLEN : Hid ((defF m f2 z c).s.t.length = f2.s.t.length + 1) := Lib.hid (length_def m z c)
          have HLT : Hid (f2.s.t.length ≤ lim) := Lib.hid h4
          clear k1 k2 hstep HSC h1 h2 h3 h4 h5 h6 hsc j1 j2 j3 j4 hn1 hk1 hfull hcm HI hkk hgd
          generalize defF m f2 z c = f9 at *
          go_wp2_with (first
            | (go_at_call 196; (with_reducible refine HSC'.out.mono ?_); rintro E w1 ⟨rfl, hs1, hb1⟩
               have HS1 := Lib.hid hs1
               have HB1 := Lib.hid (HB.out.trans hb1)
               clear hs1 hb1)
            | (go_at_call 197; (with_reducible refine (HD.out _ HS1.out (Nat.le_trans HBW.out HB1.out.size)).mono ?_); rintro E w2 ⟨rfl, hs2, hb2⟩
               have HS2 := Lib.hid hs2
               have HB2 := Lib.hid (HB1.out.trans hb2)
               clear hs2 hb2))
          go_roundw
          case rel => exact ⟨f9, Lib.hid ⟨HS2.out, HN.out⟩, HE, HB2⟩
          case measure =>
            show lim + 1 - rowsIn b w2 < lim + 1 - rowsIn b wr
            rw [HRW.out, HS2.out.rowsIn, HLEN.out]
            have := HLT.out
            omega
end Go.Proofs
namespace Go.Proofs
open Go.RowKit Go.Shelf Go.Proofs.Ct Go.Maps
set_option maxRecDepth 100000 in
theorem letter143_any (w : World) (c : Nat) (hc : c ≤ 1000) : Calls Try.prog 143 #[.int .i64 (c : Int)] w fun e w' => e = .returned (.int .i64 (letter c)) ∧ w = w' := by
  have hc0 : (0 : Int) ≤ (c : Int) := Int.natCast_nonneg _
  have hc1 : (c : Int) ≤ 1000 := by omega
  have HL : Hid (letter c = ((c : Int) / 2 + 1) * (1 - 2 * ((c : Int) % 2))) := Lib.hid (by
    unfold letter
    by_cases h : c % 2 = 1
    · rw [if_pos h, show ((c : Int) % 2) = 1 by omega]; omega
    · rw [if_neg h, show ((c : Int) % 2) = 0 by omega]; omega)
  generalize letter c = l at *
  have h2 : (0 : Int) ≤ (c : Int) / 2 := by omega
  have h3 : (c : Int) / 2 ≤ 500 := by omega
  have h4 : (0 : Int) ≤ (c : Int) % 2 := by omega
  have h5 : (c : Int) % 2 ≤ 1 := by omega
  have h6 : -501 ≤ ((c : Int) / 2 + 1) * (1 - 2 * ((c : Int) % 2)) := by
    rcases (by omega : (c : Int) % 2 = 0 ∨ (c : Int) % 2 = 1) with e | e <;> rw [e] <;> omega
  have h7 : ((c : Int) / 2 + 1) * (1 - 2 * ((c : Int) % 2)) ≤ 501 := by
    rcases (by omega : (c : Int) % 2 = 0 ∨ (c : Int) % 2 = 1) with e | e <;> rw [e] <;> omega
  go_enter Try.func143, Try.ntmps143
  go_wp2_with fail
  go_ret
  exact ⟨ret_int HL.out.symm, rfl⟩
theorem under159 : Try.prog.underlying 159 = some (.map 3 31) := by kernel_rfl
theorem zero31 (w : World) : (zeroValue 31).run Try.prog w = .ok (.slice none 0 0) w := by kernel_rfl
def heldL (v : Value) : Option (DataW Value × List MemPlace) := some (.held v, [])
def MapL (w : World) (b n : Nat) (f : Int → Value) : Prop :=
  ∃ D, w.ownsMap (H := Value) Try.prog 3 heldL b n D ∧ ∀ s, I64 s → D.atKey (.int .i64 s) (.held (.slice none 0 0)) = .held (f s)
theorem MapL.made (w : World) : MapL (w.alloc (.map #[] 0)) w.heap.size 0 (fun _ => .slice none 0 0) :=
  ⟨.map [], World.ownsMap_made _ _ _ _, fun _ _ => rfl⟩
theorem MapL.lt {w : World} {b n : Nat} {f : Int → Value} (h : MapL w b n f) : b < w.heap.size := by
  obtain ⟨D, h2, -⟩ := h
  exact h2.lt
theorem MapL.keep {w w' : World} {b n : Nat} {f : Int → Value} (h : MapL w b n f) (hb : w'.heap[b]? = w.heap[b]?) : MapL w' b n f := by
  obtain ⟨D, ⟨es, clock, h1, h2⟩, h3⟩ := h
  exact ⟨D, ⟨es, clock, hb.trans h1, h2⟩, h3⟩
theorem MapL.look {w : World} {b n : Nat} {f : Int → Value} (h : MapL w b n f) {s : Int} (hs : I64 s) : (Instr.lookup 159 (.map (some b)) (.int .i64 s) false).run Try.prog w = .ok (f s) w := by
  obtain ⟨D, h2, h3⟩ := h
  obtain ⟨v, ps, hr, hv⟩ := h2.lookup (int_keyed Try.underlying3) under159 (zero31 w) (zd := .held (.slice none 0 0)) (zp := []) rfl (key3 hs)
  rw [h3 s hs] at hv
  have h4 : (some (DataW.held v, []) : Option (DataW Value × List MemPlace)) = some (DataW.held (f s), ps) := hv
  have h5 : v = f s := by simpa using (congrArg (fun x => x.map Prod.fst) h4)
  rw [← h5]
  exact hr
theorem MapL.put {w : World} {b n : Nat} {f : Int → Value} (h : MapL w b n f) {s : Int} (hs : I64 s) (hn : n ≤ 1000) (v : Value) :
    ∃ w', (Instr.mapUpdate 159 (.map (some b)) (.int .i64 s) v).run Try.prog w = .ok () w' ∧ MapL w' b (n + 1) (fun x => if x = s then v else f x) ∧ w.grownBy w' (some b) := by
  obtain ⟨D, h2, h3⟩ := h
  obtain ⟨w', hr, ho, hg⟩ := h2.update (val := v) (int_keyed Try.underlying3) under159 (by unfold maxLen; omega) (key3 hs) (d := .held v) (ps := []) rfl
  refine ⟨w', hr, ⟨_, ho, fun x hx => ?_⟩, hg⟩
  by_cases e : x = s
  · subst e
    have hkl : WideAt.IsKeyLit (Lit.int .i64 x) := by simp [WideAt.IsKeyLit]
    rw [Maps.atKey_put_same h2.isMap hkl]
    show DataW.held v = DataW.held (if x = x then v else f x)
    rw [if_pos rfl]
  · have hne : (Lit.int .i64 x) ≠ (Lit.int .i64 s) := fun h => e (by simpa using h)
    rw [Maps.atKey_put_other hne, h3 x hx]
    show DataW.held (f x) = DataW.held (if x = s then v else f x)
    rw [if_neg e]
theorem StFB.pairs {K : Nat → Prop} {T : TypeId} {ex : List Value} {bl cs : Nat → Nat} {base b wd lim : Nat} {w : World} {f : FS} (hS : StFB K T ex bl cs base b wd lim w f) : ∃ A c, w.cell? ⟨b, 5, none⟩ = some (.slice A f.k.length c) ∧ w.frozen? ⟨b, 5, none⟩ = false ∧ f.k.length ≤ c ∧ (0 < f.k.length → ∃ gk, A = some ⟨gk, 0, none⟩ ∧
    w.cell? ⟨gk, (f.k.length - 1) * 2, none⟩ = some (.int .i64 (f.top.1 : Int)) ∧ w.cell? ⟨gk, (f.k.length - 1) * 2 + 1, none⟩ = some (.int .i64 (f.top.2 : Int))) := by
  obtain ⟨hb, P, vr, vp, vq, vk, hB, hC, hK, hF⟩ := hS
  obtain ⟨A, c, rfl⟩ := owns_form2 hK
  refine ⟨A, c, hB.cells.2.2.2.2.2.1, hB.frozen 5, ?_, fun h0 => ?_⟩
  · obtain ⟨-, ho⟩ := hK
    rcases ho with ⟨-, h0⟩ | ⟨g, cap, cur, e, -, -, h1, -⟩
    · omega
    · obtain ⟨-, -, rfl⟩ := Value.slice.inj e
      exact h1
  · obtain ⟨gk, c', e, -, -, -, hcc⟩ := hK.cell h0
    obtain ⟨rfl, -, -⟩ := Value.slice.inj e
    have h1 := hcc (f.k.length - 1) (by omega)
    have h2 : f.top = f.k.getD (f.k.length - 1) (0, 0) := by
      unfold FS.top
      rw [List.getLastD_eq_getLast?, List.getLast?_eq_getElem?, List.getD_eq_getElem?_getD]
    rw [h2]
    exact ⟨gk, rfl, h1.1, h1.2⟩
theorem StFB.popd {K : Nat → Prop} {T : TypeId} {ex : List Value} {bl cs : Nat → Nat} {base b wd lim : Nat} {w : World} {f : FS} (hT : TyF T) (hS : StFB K T ex bl cs base b wd lim w f) {A : Option Addr} {c : Nat} (hc : w.cell? ⟨b, 5, none⟩ = some (.slice A f.k.length c)) :
    StFB K T ex bl cs base b wd lim (w.setCell ⟨b, 5, none⟩ (.slice A (f.k.length - 1) c)) f.pop ∧ Keeps base K w (w.setCell ⟨b, 5, none⟩ (.slice A (f.k.length - 1) c)) := by
  obtain ⟨hb, P, vr, vp, vq, vk, hB, hC, hK, hF⟩ := hS
  have h5 := hB.cells.2.2.2.2.2.1
  rw [hc] at h5
  cases h5
  have hK1 := hK.take (k := f.k.length - 1) (by omega)
  have hd : f.k.take (f.k.length - 1) = f.k.dropLast := (List.dropLast_eq_take ..).symm
  rw [hd] at hK1
  refine ⟨⟨hb, P, vr, vp, vq, _, (hB.upd5 (s' := f.pop.s) _ rfl rfl), hC.other hB.box hT.a hT.b 5 _, hK1.other hB.box hT.c 5 _, ⟨fun k hk => by rw [World.size_setCell]; exact hF.lt k hk, hF.box, hF.r, hF.p, hF.q, fun k hk => hF.k k (by cases A <;> exact hk), hF.row⟩⟩, (Keeps.refl _ _ _).setCell hb hF.box _⟩
end Go.Proofs
namespace Go.Proofs.Ct
theorem countP_range (p : Int → Bool) : ∀ (row : List Int), row.countP p = (List.range row.length).countP fun c => p (row.getD c 0)
  | [] => rfl
  | x :: row => by
    rw [List.countP_cons, countP_range p row, List.length_cons, List.range_succ_eq_map, List.countP_cons, List.countP_map]
    rfl
theorem undT_range (t : Tb) {m : Nat} (hm : ∀ r, r < t.length → (t.row r).length = m) : undT t = ((List.range t.length).map fun r => (List.range m).countP fun c => decide (t.at r c < 0)).sum := by
  have h1 : t.map undL = (List.range t.length).map fun r => undL (t.row r) := by
    refine List.ext_getElem? fun i => ?_
    rcases Nat.lt_or_ge i t.length with h | h
    · rw [List.getElem?_map, List.getElem?_map, List.getElem?_eq_getElem h, List.getElem?_range h]
      show some (undL t[i]) = some (undL (t.row i))
      have : t.row i = t[i] := by
        show t.getD i [] = _
        rw [List.getD_eq_getElem?_getD, List.getElem?_eq_getElem h]
        rfl
      rw [this]
    · rw [List.getElem?_map, List.getElem?_map, List.getElem?_eq_none (by omega), List.getElem?_eq_none (by simpa using h)]
      rfl
  unfold undT
  rw [h1]
  congr 1
  refine List.map_congr_left fun r hr => ?_
  have hr' : r < t.length := List.mem_range.1 hr
  unfold undL
  rw [countP_range, hm r hr']
  rfl
end Go.Proofs.Ct
namespace Go.Proofs
open Go.RowKit Go.Shelf Go.Proofs.Ct Go.Maps
def negIn (w : World) (q c : Nat) : Bool := match w.cell? ⟨q, c, none⟩ with
  | some (.int _ x) => decide (x < 0)
  | _ => false
def liveIn (b : Nat) (w : World) : Nat := match w.cell? ⟨b, 6, none⟩ with
  | some (.int _ x) => x.toNat
  | _ => 0
def pairsIn (b : Nat) (w : World) : Nat := match w.cell? ⟨b, 5, none⟩ with
  | some (.slice _ n _) => n
  | _ => 0
def potIn (b m : Nat) (bl : Nat → Nat) (w : World) : Nat := liveIn b w * (3 * (rowsIn b w * m) + 1) + 2 * ((List.range (rowsIn b w)).map fun r => (List.range m).countP fun c => negIn w (bl r) c).sum + pairsIn b w
theorem StFB.potIn {K : Nat → Prop} {T : TypeId} {ex : List Value} {bl cs : Nat → Nat} {g base b wd lim : Nat} {w : World} {f : FS} (hI : Inv g f.s) (hS : StFB K T ex bl cs base b wd lim w f) : potIn b (2 * g) bl w = pot (2 * g) f := by
  have hn := StF.rowsIn ⟨bl, cs, hS⟩
  obtain ⟨A, c, hc, -⟩ := hS.pairs
  have hl : liveIn b w = f.s.live.toNat := by
    obtain ⟨-, P, vr, vp, vq, vk, hB, -⟩ := hS
    unfold liveIn
    rw [hB.cells.2.2.2.2.2.2.1]
  have hp : pairsIn b w = f.k.length := by
    unfold pairsIn
    rw [hc]
  have hu : ((List.range f.s.t.length).map fun r => (List.range (2 * g)).countP fun c => negIn w (bl r) c) = (List.range f.s.t.length).map fun r => (List.range (2 * g)).countP fun c => decide (f.s.t.at r c < 0) := by
    refine List.map_congr_left fun r hr => List.countP_congr fun c hc => ?_
    obtain ⟨gr, cr, -, -, h3⟩ := hS.at_ hI (List.mem_range.1 hr) (List.mem_range.1 hc)
    unfold negIn
    rw [h3]
  unfold Go.Proofs.potIn Ct.pot
  rw [hn, hl, hp, hu, ← undT_range f.s.t fun r hr => hI.len r hr]
end Go.Proofs
namespace Go.Proofs
open Go.RowKit Go.Shelf Go.Proofs.Ct Go.Maps
theorem r_slice_hi98 {o : Oper} {a : Act} {w : World} (x y : Operand) (A : Option Addr) (n c h : Nat) (ho : o.op = .slice 98 x none (some y) none) (hx : a.eval x = .slice A n c) (hy : a.eval y = .int .i64 (h : Int)) (hc : h ≤ c) : (execOp a.eval o).run Try.prog w = .ok (.value (sliced A 0 h c 2)) w := by
  have hu : Try.prog.underlying 98 = some (.slice (Try.prog.elem 98)) := by kernel_rfl
  have hs : (sizeOf (Try.prog.elem 98)).run Try.prog w = .ok 2 w := by kernel_rfl
  unfold execOp
  simp only [ho, hx, hy, Option.map_none, Option.map_some, Sem.run_bind, run_sliceAt_slice w 98 _ _ _ _ hu, run_slice_h w 98 A n c hu .i64 (h : Int) (by omega) (by omega)]
  simp [hs]
theorem letter_flpF (c : Nat) : letter (flp c) = -letter c := by
  by_cases h : c % 2 = 1
  · have e : flp c = c - 1 := if_neg (by omega)
    unfold letter
    rw [e, if_neg (by omega), if_pos h]
    omega
  · have e : flp c = c + 1 := if_pos (by omega)
    unfold letter
    rw [e, if_pos (by omega), if_neg h]
    omega
theorem StFB.more {K : Nat → Prop} {T : TypeId} {ex : List Value} {bl cs : Nat → Nat} {base b wd lim : Nat} {w : World} {f : FS} (hS : StFB K T ex bl cs base b wd lim w f) {k : Nat} {v : Value} (hv : ex[k]? = some v) : w.cell? ⟨b, 8 + k, none⟩ = some v := by
  obtain ⟨-, P, vr, vp, vq, vk, hB, -⟩ := hS
  exact hB.more hv
theorem call143 (args : Array Value) (w : World) : (callFunc 143 args).run Try.prog w = .ok (.enter 143 args) w := enters_of Try.func143 (by kernel_rfl) rfl args w
theorem call147 (args : Array Value) (w : World) : (callFunc 147 args).run Try.prog w = .ok (.enter 147 args) w := enters_of Try.func147 (by kernel_rfl) rfl args w
theorem fld161_0 (b : Nat) (w : World) : (Instr.fieldAt 161 (.pointer (some ⟨b, 0, none⟩)) 0).run Try.prog w = .ok (.pointer (some ⟨b, 0, none⟩)) w := by kernel_rfl
theorem fld161_1 (b : Nat) (w : World) : (Instr.fieldAt 161 (.pointer (some ⟨b, 0, none⟩)) 1).run Try.prog w = .ok (.pointer (some ⟨b, 8, none⟩)) w := by kernel_rfl
theorem agg159 (w : World) : (isAgg 159).run Try.prog w = .ok false w := by kernel_rfl
theorem sliced0_98 (g n c : Nat) : sliced (some ⟨g, 0, none⟩) 0 n c 2 = .slice (some ⟨g, 0, none⟩) n c := by
  unfold sliced
  split
  · simp
  · simp [Addr.add_lit]
theorem dedStep_two {m : Nat} {ws : Nat → List W} {f : FS} {z c y : Nat} {fA fB : FS} (htop : f.top = (z, c)) (hA : scansF m f.pop z (ws c) = fA) (hl : fA.s.rp z = z) (hy : fA.s.t.at z c = (y : Int)) (hB : scansF m fA y (ws (flp c)) = fB) : dedStep m ws f = fB := by
  unfold dedStep dedS
  rw [htop]
  simp only
  rw [hA, if_pos ⟨hl, by omega⟩, hy, Int.toNat_natCast, hB]
theorem dedStep_one {m : Nat} {ws : Nat → List W} {f : FS} {z c : Nat} {fA : FS} (htop : f.top = (z, c)) (hA : scansF m f.pop z (ws c) = fA) (hl : ¬ (fA.s.rp z = z ∧ 0 ≤ fA.s.t.at z c)) : dedStep m ws f = fA := by
  unfold dedStep dedS
  rw [htop]
  simp only
  rw [hA, if_neg hl]
set_option maxRecDepth 100000 in
set_option maxHeartbeats 1000000 in
theorem deduce145_any (K : Nat → Prop) (T : TypeId) (ex : List Value) (bl cs : Nat → Nat) (g m base b lim : Nat) (hm : m = 2 * g) (w : World) (f : FS) (ws : Nat → List W) (fm : Int → Value) (B0 nB : Nat) (hT : TyF T) (hR : Fine g f) (hS : StFB K T ex bl cs base b m lim w f) (hbw : base ≤ w.heap.size)
    (hex : ex[0]? = some (.map (some B0))) (hKB : K B0) (hM : MapL w B0 nB fm) (hv : ∀ c, c < m → ∀ W, Keeps base K w W → Tab W (fm (letter c)) (ws c)) (hl : ∀ c, c < m → ∀ j, j < (ws c).length → LOk g ((ws c).getD j [])) (hwl : ∀ c, c < m → ∀ j, ((ws c).getD j []).length ≤ 1000000) :
    Calls Try.prog 145 #[.pointer (some ⟨b, 0, none⟩)] w fun e w' => e = .returned (.tuple #[]) ∧ StFB K T ex bl cs base b m lim w' (ded m ws f) ∧ Keeps base K w w' := by
  have HT := Lib.hid hT
  have HM := Lib.hid hm
  have HBW := Lib.hid hbw
  have HL : Hid (∀ c, c < 2 * g → ∀ j, j < (ws c).length → LOk g ((ws c).getD j [])) := Lib.hid (by rw [← hm]; exact hl)
  have HV := Lib.hid hv
  have HWL := Lib.hid hwl
  have HMX : Hid (∀ W, Keeps base K w W → ∀ s, I64 s → (Instr.lookup 159 (.map (some B0)) (.int .i64 s) false).run Try.prog W = .ok (fm s) W) := Lib.hid fun W h s hs => (hM.keep (h.2 _ hKB)).look hs
  have HEX := Lib.hid hex
  have HREL : Hid (StFB K T ex bl cs base b m lim w f ∧ Fine g f) := Lib.hid ⟨hS, hR⟩
  obtain ⟨F, hFe⟩ : ∃ F, ded m ws f = F := ⟨_, rfl⟩
  have HFE := Lib.hid hFe
  rw [hFe]
  obtain ⟨A0, c0, hk0, -⟩ := hS.pairs
  have hkI : (f.k.length : Int) ≤ 1000000000000 := by have := hR.k; omega
  have hm32 : m ≤ 32 := by have := hR.g16; omega
  clear hT hbw hl hv hwl hM hex hS hR hFe hm
  go_enter Try.func145, Try.ntmps145
  go_wp2_with fail
  go_loopw [2] (fun n wr => ∃ f1 : FS, n = .int .i64 (f1.k.length : Int) ∧ Hid (StFB K T ex bl cs base b m lim wr f1 ∧ Fine g f1) ∧ Hid (ded m ws f1 = F) ∧ Hid (Keeps base K w wr)) (fun _ wr => potIn b m bl wr)
  case atStart => exact ⟨f, rfl, HREL, HFE, Lib.hid (Keeps.refl _ _ _)⟩
  case round =>
    clear HREL HFE hk0 hkI
    obtain ⟨f1, rfl, HS, HF, HB⟩ := hrel
    have hk0 : (0 : Int) ≤ (f1.k.length : Int) := Int.natCast_nonneg _
    obtain ⟨hst, hfi⟩ := HS.out
    obtain ⟨A, ck, hp, hpf, hpc, hpt⟩ := hst.pairs
    have hkI : (f1.k.length : Int) ≤ 1000000000000 := by have := hfi.k; omega
    by_cases hlt : 0 < f1.k.length
    · obtain ⟨gk, rfl, ht1, ht2⟩ := hpt hlt
      have hne : f1.k ≠ [] := List.length_pos_iff.1 hlt
      obtain ⟨hz1, hc1⟩ := hfi.rest.kok _ (top_mem hne)
      obtain ⟨z, c, htop⟩ : ∃ z c, f1.top = (z, c) := ⟨_, _, rfl⟩
      rw [htop] at ht1 ht2 hz1 hc1
      simp only at ht1 ht2 hz1 hc1
      have HPOP : Hid (∀ q, StFB K T ex bl cs base b m lim ((wr.drewN q).setCell ⟨b, 5, none⟩ (.slice (some ⟨gk, 0, none⟩) (f1.k.length - 1) ck)) f1.pop ∧ Keeps base K wr ((wr.drewN q).setCell ⟨b, 5, none⟩ (.slice (some ⟨gk, 0, none⟩) (f1.k.length - 1) ck))) := Lib.hid fun q => by
        have hbl := below_drewN (Below.refl wr.heap.size wr) q
        have h1 := (hst.below hbl).popd HT.out (by simpa using hp)
        exact ⟨h1.1, (Keeps.all hbl (Nat.le_trans HBW.out HB.out.size) hst.lt).trans h1.2⟩
      have hfp : Fine g f1.pop := hfi.pop
      have hcm : c < m := by rw [HM.out]; exact hc1
      have hfm : flp c < m := by rw [HM.out]; exact flp_lt2 hc1
      obtain ⟨fA, hA⟩ : ∃ fA, scansF m f1.pop z (ws c) = fA := ⟨_, rfl⟩
      have hxA : FExt g f1.pop fA := by rw [← hA, HM.out]; exact scans_F (HL.out c hc1) hfp.rest hz1
      have hfA : Fine g fA := hfp.ext hxA
      have hnA : fA.s.t.length = f1.s.t.length := hxA.n
      have HSA : Hid (∀ W, StFB K T ex bl cs base b m lim W f1.pop → Keeps base K w W → Calls Try.prog 147 #[.pointer (some ⟨b, 0, none⟩), .int .i64 (z : Int), fm (letter c)] W fun e w' => e = .returned (.tuple #[]) ∧ StFB K T ex bl cs base b m lim w' fA ∧ Keeps base K W w') := Lib.hid fun W h1 h2 => by
        have := scans147_any K T ex bl cs g m base b lim z HM.out W f1.pop (fm (letter c)) (ws c) HT.out hfp h1 (Nat.le_trans HBW.out h2.size) (fun W' h => HV.out c hcm W' (h2.trans h)) (HL.out c hc1) (HWL.out c hcm) hz1
        rw [hA] at this
        exact this
      have hbA : ∀ c', c' < 2 * g → -1 ≤ fA.s.t.at z c' ∧ fA.s.t.at z c' < fA.s.t.length := fun c' h => hfA.rest.rest.inv.bd z (by rw [hnA]; exact hz1) c' h
      have HDS := Lib.hid (ded_step (fun c h => HL.out c h) hfi.rest hne)
      have HLESS := Lib.hid (dedStep_less (fun c h => HL.out c h) hfi.rest hne)
      have HPI : Hid (∀ W f2, Inv g f2.s → StFB K T ex bl cs base b m lim W f2 → potIn b m bl W = pot m f2) := Lib.hid fun W f2 h1 h2 => by
        have := h2.potIn h1
        rwa [← HM.out] at this
      rw [← HM.out] at HDS HLESS
      have HPO := Lib.hid (HPI.out wr f1 hfi.rest.rest.inv hst)
      have hlbd := letter_bd (c := c) (by omega)
      have hI1 : I64 (letter c) := by unfold I64; omega
      have hI2 : I64 (-(letter c)) := by unfold I64; omega
      have hlb : -9223372036854775807 ≤ letter c ∧ letter c ≤ 9223372036854775807 := by omega
      have hc1000 : c ≤ 1000 := by omega
      have hz0 : (0 : Int) ≤ (z : Int) := Int.natCast_nonneg _
      have hc0 : (0 : Int) ≤ (c : Int) := Int.natCast_nonneg _
      have hkpos : (0 : Int) < (f1.k.length : Int) := by omega
      have HTOP := Lib.hid htop
      have HAE := Lib.hid hA
      have HFA := Lib.hid hfA
      have HZL : Hid (z < fA.s.t.length) := Lib.hid (by rw [hnA]; exact hz1)
      have HBA := Lib.hid hbA
      have HC1 := Lib.hid hc1
      obtain ⟨n1, hn1⟩ : ∃ n1, f1.k.length - 1 = n1 := ⟨_, rfl⟩
      rw [hn1] at ht1 ht2 HPOP
      have hn2 : (f1.k.length : Int) - 1 = (n1 : Int) := by omega
      have hn0 : (0 : Int) ≤ (n1 : Int) := Int.natCast_nonneg _
      have hn3 : (n1 : Int) < (f1.k.length : Int) := by omega
      have hn4 : n1 ≤ ck := by omega
      have hsl := sliced0_98 gk n1 ck
      clear hst hfi hpc hpt hne hz1 hc1 htop hfp hxA hfA hnA hbA hlt hcm hfm hA
      go_wp2_with fail
      go_quiet (fail)
      go_upto_region 5 with ((with_reducible refine wpList_sel 47 ?_); refine wpList_val rfl (r_slice_hi98 (.tmp 44) (.tmp 46) _ _ _ n1 rfl rfl rfl hn4) ?_; rw [hsl])
      obtain ⟨hs0, hb0⟩ := HPOP.out nq
      generalize hwy : (wr.drewN nq).setCell ⟨b, 5, none⟩ (.slice (some ⟨gk, 0, none⟩) n1 ck) = wy at *
      replace hs0 := hs0.below (Below.refl _ _).drew
      replace hb0 := hb0.drew
      obtain ⟨w0, hw0⟩ : ∃ w0, w0 = wy.drew := ⟨_, rfl⟩
      rw [← hw0] at hs0 hb0
      have HB0 := Lib.hid (HB.out.trans hb0)
      have HMC := Lib.hid (hs0.more HEX.out)
      have HLK1 := Lib.hid (HMX.out _ HB0.out _ hI1)
      have HSA := Lib.hid (HSA.out _ hs0 HB0.out)
      clear HPOP hp hpf ht1 ht2 hsl hs0 hb0 hwy
      refine (wpIn_wide (n := 3)).1 ?_
      refine wpIn_region_all (by kernel_rfl) 12 rfl (fun i => some (51 + i)) (lex_of (by kernel_rfl)) (fun ls W => (ls 11 = false → W = w0) ∧ (ls 11 = true → StFB K T ex bl cs base b m lim W fA ∧ Keeps base K w0 W))
        (fun i v _ => v = ([.pointer (some ⟨b, 0, none⟩), .pointer (some ⟨b, 0, none⟩), .pointer (some ⟨b, 0, none⟩), .int .i64 (z : Int), .pointer (some ⟨b, 0, none⟩), .pointer (some ⟨b, 0, none⟩), .pointer (some ⟨b, 8, none⟩), .map (some B0), .int .i64 (c : Int), .int .i64 (letter c), fm (letter c), .tuple #[]] : List Value).getD i undef) (fun _ _ _ => True) (dm_inj (by kernel_rfl)) (fun _ _ _ _ _ _ _ _ _ h => h) (dm_lt (n := 105) (by kernel_rfl)) ⟨fun _ => hw0.symm, fun h => by cases h⟩ ?_ ?_
      · intro ls q o a w2 hq ho hS2 hls hcl hP hpre
        have hcases : q = 0 ∨ q = 1 ∨ q = 2 ∨ q = 3 ∨ q = 4 ∨ q = 5 ∨ q = 6 ∨ q = 7 ∨ q = 8 ∨ q = 9 ∨ q = 10 ∨ q = 11 := by
          have : q < 12 := hq
          omega
        rcases hcases with rfl | rfl | rfl | rfl | rfl | rfl | rfl | rfl | rfl | rfl | rfl | rfl
        · obtain rfl := Option.some.inj ho
          exact wpOpIn_of rfl rfl (wpW_val (r_move (.tmp 0) rfl (hP.out 0 (dm_out (by kernel_rfl)))) ⟨_, rfl, hS2, trivial, (fun h => by simp at h), rfl⟩)
        · obtain rfl := Option.some.inj ho
          exact wpOpIn_of rfl rfl (wpW_val (r_nil (.tmp 51) _ rfl (hpre ⟨0, .data⟩ (by simp) rfl).2) ⟨_, rfl, hS2, trivial, (fun h => by simp at h), rfl⟩)
        · obtain rfl := Option.some.inj ho
          exact wpOpIn_of rfl rfl (wpW_val (r_fld (.tmp 52) _ rfl (hpre ⟨1, .data⟩ (by simp) rfl).2 (fld161_0 b _)) ⟨_, rfl, hS2, trivial, (fun h => by simp at h), rfl⟩)
        · obtain rfl := Option.some.inj ho
          exact wpOpIn_of rfl rfl (wpW_val (r_move (.tmp 3) rfl (hP.out 3 (dm_out (by kernel_rfl)))) ⟨_, rfl, hS2, trivial, (fun h => by simp at h), rfl⟩)
        · obtain rfl := Option.some.inj ho
          exact wpOpIn_of rfl rfl (wpW_val (r_move (.tmp 0) rfl (hP.out 0 (dm_out (by kernel_rfl)))) ⟨_, rfl, hS2, trivial, (fun h => by simp at h), rfl⟩)
        · obtain rfl := Option.some.inj ho
          exact wpOpIn_of rfl rfl (wpW_val (r_nil (.tmp 55) _ rfl (hpre ⟨4, .data⟩ (by simp) rfl).2) ⟨_, rfl, hS2, trivial, (fun h => by simp at h), rfl⟩)
        · obtain rfl := Option.some.inj ho
          exact wpOpIn_of rfl rfl (wpW_val (r_fld (.tmp 56) _ rfl (hpre ⟨5, .data⟩ (by simp) rfl).2 (fld161_1 b _)) ⟨_, rfl, hS2, trivial, (fun h => by simp at h), rfl⟩)
        · obtain rfl := Option.some.inj ho
          have h10 := not_yet hcl 10 rfl ⟨7, .data⟩ (by simp) rfl hls
          have h11 := not_yet hcl 11 rfl ⟨10, .data⟩ (by simp) rfl h10
          have hw := hS2.1 h11
          exact wpOpIn_of rfl rfl (wpW_val (r_load1 159 agg159 (.tmp 57) ⟨b, 8, none⟩ rfl (hpre ⟨6, .data⟩ (by simp) rfl).2 (hw ▸ HMC.out)) ⟨_, rfl, hS2, trivial, (fun h => by simp at h), rfl⟩)
        · obtain rfl := Option.some.inj ho
          exact wpOpIn_of rfl rfl (wpW_val (r_move (.tmp 4) rfl (hP.out 4 (dm_out (by kernel_rfl)))) ⟨_, rfl, hS2, trivial, (fun h => by simp at h), rfl⟩)
        · obtain rfl := Option.some.inj ho
          exact wpOpIn_of rfl rfl (wpW_call (R := fun v w' => v = .int .i64 (letter c) ∧ w' = w2) (r_call1 (.tmp 59) _ _ rfl (hpre ⟨8, .data⟩ (by simp) rfl).2 call143) ((letter143_any w2 c hc1000).mono fun e w' ⟨he, hw⟩ => ⟨_, he, rfl, hw.symm⟩)
            (fun v w'' ⟨hv, hw⟩ => ⟨v, rfl, hw ▸ hS2, trivial, (fun h => by simp at h), hv⟩))
        · obtain rfl := Option.some.inj ho
          have h11 := not_yet hcl 11 rfl ⟨10, .data⟩ (by simp) rfl hls
          have hw := hS2.1 h11
          exact wpOpIn_of rfl rfl (wpW_val (r_look 159 (.tmp 58) (.tmp 60) rfl (hpre ⟨7, .data⟩ (by simp) rfl).2 (hpre ⟨9, .data⟩ (by simp) rfl).2 (hw ▸ HLK1.out)) ⟨_, rfl, hS2, trivial, (fun h => by simp at h), rfl⟩)
        · obtain rfl := Option.some.inj ho
          have hw := hS2.1 hls
          subst hw
          exact wpOpIn_of rfl rfl (wpW_call (R := fun v w' => v = .tuple #[] ∧ StFB K T ex bl cs base b m lim w' fA ∧ Keeps base K w2 w') (r_call3 (.tmp 53) (.tmp 54) (.tmp 61) _ _ _ _ rfl (hpre ⟨2, .data⟩ (by simp) rfl).2 (hpre ⟨3, .data⟩ (by simp) rfl).2 (hpre ⟨10, .data⟩ (by simp) rfl).2 call147) (HSA.out.mono fun e w' ⟨he, h⟩ => ⟨_, he, rfl, h⟩)
            (fun v w'' ⟨hv, h⟩ => ⟨v, rfl, ⟨(fun h => by simp at h), fun _ => h⟩, trivial, (fun h => by simp at h), hv⟩))

      · intro ls a w3 hall hS2 hP hsl2
        have h11 : ls 11 = true := hall 11 (by decide)
        obtain ⟨hs3, hb3⟩ := hS2.2 h11
        obtain ⟨vs, hvs, hfr⟩ := hP.frame 105 rfl
        clear hsl2 hP hall h11 hvs hS2 HSA HLK1 HMC
        subst hfr
        dsimp only
        simp only [List.range, List.range.loop, List.map_cons, List.map_nil, List.any_cons, List.any_nil, Nat.reduceAdd, Nat.reduceBEq, Option.some_beq_some, Bool.or_false, if_true, if_false, Bool.false_eq_true, List.getD_cons_zero, List.getD_cons_succ]
        have HB3 := Lib.hid (HB0.out.trans hb3)
        have HS3 := Lib.hid hs3
        have HAL := Lib.hid (alive198_any K T ex bl cs base b m lim z w3 fA hs3 HZL.out)
        have HFIN : Hid (∀ W f9, StFB K T ex bl cs base b m lim W f9 → Fine g f9 → dedStep m ws f1 = f9 → ded m ws f9 = F ∧ potIn b m bl W < potIn b m bl wr) := Lib.hid fun W f9 h1 h2 h3 => ⟨by rw [← h3, ← HDS.out]; exact HF.out, by rw [HPO.out, HPI.out W f9 h2.rest.rest.inv h1, ← h3]; exact HLESS.out⟩
        clear HDS HLESS HPO HPI
        by_cases hal : fA.s.rp z = z
        · rw [decide_eq_true hal] at HAL
          obtain ⟨gr, cr, r1, r2, r3⟩ := hs3.at_ HFA.out.rest.rest.inv HZL.out HC1.out
          rw [← HM.out] at r2
          have hzI : (z : Int) < (fA.s.t.length : Int) := by have := HZL.out; omega
          have hcI : (c : Int) < (m : Int) := by have := HC1.out; have := HM.out; omega
          have hbz := HBA.out c HC1.out
          have hnI : (fA.s.t.length : Int) ≤ 1000 := by have := HFA.out.n; omega
          by_cases hy : 0 ≤ fA.s.t.at z c
          · obtain ⟨y, hye⟩ : ∃ y : Nat, fA.s.t.at z c = (y : Int) := ⟨(fA.s.t.at z c).toNat, by omega⟩
            rw [hye] at r3 hbz
            obtain ⟨fB, hBe⟩ : ∃ fB, scansF m fA y (ws (flp c)) = fB := ⟨_, rfl⟩
            have hDS := dedStep_two HTOP.out HAE.out hal hye hBe
            have hyl : y < fA.s.t.length := by omega
            have hfl : flp c < 2 * g := flp_lt2 HC1.out
            have hxB : FExt g fA fB := by rw [← hBe, HM.out]; exact scans_F (HL.out _ hfl) HFA.out.rest hyl
            have hfB : Fine g fB := HFA.out.ext hxB
            have HFB := Lib.hid hfB
            have HDS := Lib.hid hDS
            have HSB : Hid (∀ W, StFB K T ex bl cs base b m lim W fA → Keeps base K w W → Calls Try.prog 147 #[.pointer (some ⟨b, 0, none⟩), .int .i64 (y : Int), fm (-(letter c))] W fun e w' => e = .returned (.tuple #[]) ∧ StFB K T ex bl cs base b m lim w' fB ∧ Keeps base K W w') := Lib.hid fun W h1 h2 => by
              have hfm : flp c < m := by rw [HM.out]; exact hfl
              have := scans147_any K T ex bl cs g m base b lim y HM.out W fA (fm (letter (flp c))) (ws (flp c)) HT.out HFA.out h1 (Nat.le_trans HBW.out h2.size) (fun W' h => HV.out _ hfm W' (h2.trans h)) (HL.out _ hfl) (HWL.out _ hfm) hyl
              rw [hBe, letter_flpF] at this
              exact this
            have hzn : z < fA.s.t.length := HZL.out
            have hcm : c < m := by rw [HM.out]; exact HC1.out
            have hy0 : (0 : Int) ≤ (y : Int) := Int.natCast_nonneg _
            clear hal hy hye hBe hDS hxB hfB hbz hs3 hb3
            generalize fA.s.t.length = n at *
            go_upto_region 7 with (go_at_call 198; (refine HAL.out.mono ?_); rintro E w4 ⟨rfl, rfl⟩)
            have hs3 := HS3.out.below (Below.refl _ _).drew
            have hb3 := HB3.out.drew
            have r1 : w4.drew.cell? ⟨b, 2, none⟩ = _ := r1
            have r2 : w4.drew.cell? ⟨gr, z, none⟩ = _ := r2
            have r3 : w4.drew.cell? ⟨bl z, c, none⟩ = _ := r3
            clear w0 hw0 HB0
            obtain ⟨w0, hw0⟩ : ∃ w0, w0 = w4.drew := ⟨_, rfl⟩
            rw [← hw0] at hs3 hb3 r1 r2 r3
            have HR1 := Lib.hid r1
            have HR2 := Lib.hid r2
            have HR3 := Lib.hid r3
            have HMC := Lib.hid (hs3.more HEX.out)
            have HLK2 := Lib.hid (HMX.out _ hb3 _ hI2)
            have HSB := Lib.hid (HSB.out _ hs3 hb3)
            have HB0 := Lib.hid hb3
            clear r1 r2 r3 hs3 hb3
            refine (wpIn_wide (n := 3)).1 ?_
            refine wpIn_region_all (by kernel_rfl) 23 rfl (fun i => some (82 + i)) (lex_of (by kernel_rfl)) (fun ls W => (ls 22 = false → W = w0) ∧ (ls 22 = true → StFB K T ex bl cs base b m lim W fB ∧ Keeps base K w0 W))
              (fun i v _ => v = ([.pointer (some ⟨b, 0, none⟩), .pointer (some ⟨b, 0, none⟩), .pointer (some ⟨b, 0, none⟩), .pointer (some ⟨b, 0, none⟩), .pointer (some ⟨b, 0, none⟩), .pointer (some ⟨b, 0, none⟩), .pointer (some ⟨b, 2, none⟩), .slice (some ⟨gr, 0, none⟩) n cr, .int .i64 (z : Int), .pointer (some ⟨gr, z, none⟩), .slice (some ⟨bl z, 0, none⟩) m (cs z), .int .i64 (c : Int), .pointer (some ⟨(bl z), c, none⟩), .int .i64 (y : Int), .pointer (some ⟨b, 0, none⟩), .pointer (some ⟨b, 0, none⟩), .pointer (some ⟨b, 8, none⟩), .map (some B0), .int .i64 (c : Int), .int .i64 (letter c), .int .i64 (-(letter c)), fm (-(letter c)), .tuple #[]] : List Value).getD i undef) (fun _ _ _ => True) (dm_inj (by kernel_rfl)) (fun _ _ _ _ _ _ _ _ _ h => h) (dm_lt (n := 105) (by kernel_rfl)) ⟨fun _ => hw0.symm, fun h => by cases h⟩ ?_ ?_
            · intro ls q o a w2 hq ho hS2 hls hcl hP hpre
              have hcases : q = 0 ∨ q = 1 ∨ q = 2 ∨ q = 3 ∨ q = 4 ∨ q = 5 ∨ q = 6 ∨ q = 7 ∨ q = 8 ∨ q = 9 ∨ q = 10 ∨ q = 11 ∨ q = 12 ∨ q = 13 ∨ q = 14 ∨ q = 15 ∨ q = 16 ∨ q = 17 ∨ q = 18 ∨ q = 19 ∨ q = 20 ∨ q = 21 ∨ q = 22 := by
                have : q < 23 := hq
                omega
              rcases hcases with rfl | rfl | rfl | rfl | rfl | rfl | rfl | rfl | rfl | rfl | rfl | rfl | rfl | rfl | rfl | rfl | rfl | rfl | rfl | rfl | rfl | rfl | rfl
              · obtain rfl := Option.some.inj ho
                exact wpOpIn_of rfl rfl (wpW_val (r_move (.tmp 0) rfl (hP.out 0 (dm_out (by kernel_rfl)))) ⟨_, rfl, hS2, trivial, (fun h => by simp at h), rfl⟩)
              · obtain rfl := Option.some.inj ho
                exact wpOpIn_of rfl rfl (wpW_val (r_nil (.tmp 82) _ rfl (hpre ⟨0, .data⟩ (by simp) rfl).2) ⟨_, rfl, hS2, trivial, (fun h => by simp at h), rfl⟩)
              · obtain rfl := Option.some.inj ho
                exact wpOpIn_of rfl rfl (wpW_val (r_fld (.tmp 83) _ rfl (hpre ⟨1, .data⟩ (by simp) rfl).2 (fld161_0 b _)) ⟨_, rfl, hS2, trivial, (fun h => by simp at h), rfl⟩)
              · obtain rfl := Option.some.inj ho
                exact wpOpIn_of rfl rfl (wpW_val (r_move (.tmp 0) rfl (hP.out 0 (dm_out (by kernel_rfl)))) ⟨_, rfl, hS2, trivial, (fun h => by simp at h), rfl⟩)
              · obtain rfl := Option.some.inj ho
                exact wpOpIn_of rfl rfl (wpW_val (r_nil (.tmp 85) _ rfl (hpre ⟨3, .data⟩ (by simp) rfl).2) ⟨_, rfl, hS2, trivial, (fun h => by simp at h), rfl⟩)
              · obtain rfl := Option.some.inj ho
                exact wpOpIn_of rfl rfl (wpW_val (r_fld (.tmp 86) _ rfl (hpre ⟨4, .data⟩ (by simp) rfl).2 (fld161_0 b _)) ⟨_, rfl, hS2, trivial, (fun h => by simp at h), rfl⟩)
              · obtain rfl := Option.some.inj ho
                exact wpOpIn_of rfl rfl (wpW_val (r_fld (.tmp 87) _ rfl (hpre ⟨5, .data⟩ (by simp) rfl).2 (fld151_2 b _)) ⟨_, rfl, hS2, trivial, (fun h => by simp at h), rfl⟩)
              · obtain rfl := Option.some.inj ho
                have h9 := not_yet hcl 9 rfl ⟨7, .data⟩ (by simp) rfl hls
                have h10 := not_yet hcl 10 rfl ⟨9, .data⟩ (by simp) rfl h9
                have h12 := not_yet hcl 12 rfl ⟨10, .data⟩ (by simp) rfl h10
                have h13 := not_yet hcl 13 rfl ⟨12, .data⟩ (by simp) rfl h12
                have h22 := not_yet hcl 22 rfl ⟨13, .data⟩ (by simp) rfl h13
                have hw := hS2.1 h22
                exact wpOpIn_of rfl rfl (wpW_val (r_load1 22 agg22 (.tmp 88) ⟨b, 2, none⟩ rfl (hpre ⟨6, .data⟩ (by simp) rfl).2 (hw ▸ HR1.out)) ⟨_, rfl, hS2, trivial, (fun h => by simp at h), rfl⟩)
              · obtain rfl := Option.some.inj ho
                exact wpOpIn_of rfl rfl (wpW_val (r_move (.tmp 3) rfl (hP.out 3 (dm_out (by kernel_rfl)))) ⟨_, rfl, hS2, trivial, (fun h => by simp at h), rfl⟩)
              · obtain rfl := Option.some.inj ho
                exact wpOpIn_of rfl rfl (wpW_val (r_idx (.tmp 89) (.tmp 90) _ _ rfl (hpre ⟨7, .data⟩ (by simp) rfl).2 (hpre ⟨8, .data⟩ (by simp) rfl).2 (idx_sl Try.underlying22 size24 gr _ cr z hzn _)) ⟨_, rfl, hS2, trivial, (fun h => by simp at h), rfl⟩)
              · obtain rfl := Option.some.inj ho
                have h12 := not_yet hcl 12 rfl ⟨10, .data⟩ (by simp) rfl hls
                have h13 := not_yet hcl 13 rfl ⟨12, .data⟩ (by simp) rfl h12
                have h22 := not_yet hcl 22 rfl ⟨13, .data⟩ (by simp) rfl h13
                have hw := hS2.1 h22
                exact wpOpIn_of rfl rfl (wpW_val (r_load1 24 agg24 (.tmp 91) ⟨gr, z, none⟩ rfl (hpre ⟨9, .data⟩ (by simp) rfl).2 (hw ▸ HR2.out)) ⟨_, rfl, hS2, trivial, (fun h => by simp at h), rfl⟩)
              · obtain rfl := Option.some.inj ho
                exact wpOpIn_of rfl rfl (wpW_val (r_move (.tmp 4) rfl (hP.out 4 (dm_out (by kernel_rfl)))) ⟨_, rfl, hS2, trivial, (fun h => by simp at h), rfl⟩)
              · obtain rfl := Option.some.inj ho
                exact wpOpIn_of rfl rfl (wpW_val (r_idx (.tmp 92) (.tmp 93) _ _ rfl (hpre ⟨10, .data⟩ (by simp) rfl).2 (hpre ⟨11, .data⟩ (by simp) rfl).2 (idx_sl Try.underlying24 size3 (bl z) _ (cs z) c hcm _)) ⟨_, rfl, hS2, trivial, (fun h => by simp at h), rfl⟩)
              · obtain rfl := Option.some.inj ho
                have h22 := not_yet hcl 22 rfl ⟨13, .data⟩ (by simp) rfl hls
                have hw := hS2.1 h22
                exact wpOpIn_of rfl rfl (wpW_val (r_load1 3 agg3 (.tmp 94) ⟨bl z, c, none⟩ rfl (hpre ⟨12, .data⟩ (by simp) rfl).2 (hw ▸ HR3.out)) ⟨_, rfl, hS2, trivial, (fun h => by simp at h), rfl⟩)
              · obtain rfl := Option.some.inj ho
                exact wpOpIn_of rfl rfl (wpW_val (r_move (.tmp 0) rfl (hP.out 0 (dm_out (by kernel_rfl)))) ⟨_, rfl, hS2, trivial, (fun h => by simp at h), rfl⟩)
              · obtain rfl := Option.some.inj ho
                exact wpOpIn_of rfl rfl (wpW_val (r_nil (.tmp 96) _ rfl (hpre ⟨14, .data⟩ (by simp) rfl).2) ⟨_, rfl, hS2, trivial, (fun h => by simp at h), rfl⟩)
              · obtain rfl := Option.some.inj ho
                exact wpOpIn_of rfl rfl (wpW_val (r_fld (.tmp 97) _ rfl (hpre ⟨15, .data⟩ (by simp) rfl).2 (fld161_1 b _)) ⟨_, rfl, hS2, trivial, (fun h => by simp at h), rfl⟩)
              · obtain rfl := Option.some.inj ho
                have h21 := not_yet hcl 21 rfl ⟨17, .data⟩ (by simp) rfl hls
                have h22 := not_yet hcl 22 rfl ⟨21, .data⟩ (by simp) rfl h21
                have hw := hS2.1 h22
                exact wpOpIn_of rfl rfl (wpW_val (r_load1 159 agg159 (.tmp 98) ⟨b, 8, none⟩ rfl (hpre ⟨16, .data⟩ (by simp) rfl).2 (hw ▸ HMC.out)) ⟨_, rfl, hS2, trivial, (fun h => by simp at h), rfl⟩)
              · obtain rfl := Option.some.inj ho
                exact wpOpIn_of rfl rfl (wpW_val (r_move (.tmp 4) rfl (hP.out 4 (dm_out (by kernel_rfl)))) ⟨_, rfl, hS2, trivial, (fun h => by simp at h), rfl⟩)
              · obtain rfl := Option.some.inj ho
                exact wpOpIn_of rfl rfl (wpW_call (R := fun v w' => v = .int .i64 (letter c) ∧ w' = w2) (r_call1 (.tmp 100) _ _ rfl (hpre ⟨18, .data⟩ (by simp) rfl).2 call143) ((letter143_any w2 c hc1000).mono fun e w' ⟨he, hw⟩ => ⟨_, he, rfl, hw.symm⟩)
                  (fun v w'' ⟨hv, hw⟩ => ⟨v, rfl, hw ▸ hS2, trivial, (fun h => by simp at h), hv⟩))
              · obtain rfl := Option.some.inj ho
                exact wpOpIn_of rfl rfl (wpW_val (r_neg (.tmp 101) (letter c) rfl (hpre ⟨19, .data⟩ (by simp) rfl).2 hlb) ⟨_, rfl, hS2, trivial, (fun h => by simp at h), rfl⟩)
              · obtain rfl := Option.some.inj ho
                have h22 := not_yet hcl 22 rfl ⟨21, .data⟩ (by simp) rfl hls
                have hw := hS2.1 h22
                exact wpOpIn_of rfl rfl (wpW_val (r_look 159 (.tmp 99) (.tmp 102) rfl (hpre ⟨17, .data⟩ (by simp) rfl).2 (hpre ⟨20, .data⟩ (by simp) rfl).2 (hw ▸ HLK2.out)) ⟨_, rfl, hS2, trivial, (fun h => by simp at h), rfl⟩)
              · obtain rfl := Option.some.inj ho
                have hw := hS2.1 hls
                subst hw
                exact wpOpIn_of rfl rfl (wpW_call (R := fun v w' => v = .tuple #[] ∧ StFB K T ex bl cs base b m lim w' fB ∧ Keeps base K w2 w') (r_call3 (.tmp 84) (.tmp 95) (.tmp 103) _ _ _ _ rfl (hpre ⟨2, .data⟩ (by simp) rfl).2 (hpre ⟨13, .data⟩ (by simp) rfl).2 (hpre ⟨21, .data⟩ (by simp) rfl).2 call147) (HSB.out.mono fun e w' ⟨he, h⟩ => ⟨_, he, rfl, h⟩)
                  (fun v w'' ⟨hv, h⟩ => ⟨v, rfl, ⟨(fun h => by simp at h), fun _ => h⟩, trivial, (fun h => by simp at h), hv⟩))

            · intro ls a w9 hall hS2 hP hsl2
              have h22 : ls 22 = true := hall 22 (by decide)
              obtain ⟨hs9, hb9⟩ := hS2.2 h22
              obtain ⟨vs9, hvs, hfr⟩ := hP.frame 105 rfl
              clear hsl2 hP hall h22 hvs hS2 HSB HLK2 HMC HR1 HR2 HR3
              subst hfr
              dsimp only
              simp only [List.range, List.range.loop, List.map_cons, List.map_nil, List.any_cons, List.any_nil, Nat.reduceAdd, Nat.reduceBEq, Option.some_beq_some, Bool.or_false, if_true, if_false, Bool.false_eq_true, List.getD_cons_zero, List.getD_cons_succ]
              have HB9 := Lib.hid (HB0.out.trans hb9)
              have HS9 := Lib.hid hs9
              obtain ⟨hF9, hlt9⟩ := HFIN.out w9 fB hs9 HFB.out HDS.out
              have HF9 := Lib.hid hF9
              have HLT9 := Lib.hid hlt9
              obtain ⟨A9, c9, p9, -⟩ := hs9.pairs
              have hk9 : (fB.k.length : Int) ≤ 1000000000000 := by have := HFB.out.k; omega
              clear hs9 hb9 hF9 hlt9 hw0 HB0 w0 HAL HFIN HS3 HB3 HFA hzn hcm hy0 hzI hcI hnI hfl hyl hI1 hI2 hlb hlbd HAE HTOP HBA HC1 HZL HMX HWL HV HL
              go_wp2_with fail
              go_roundw
              case rel => exact ⟨fB, rfl, Lib.hid ⟨HS9.out, HFB.out⟩, HF9, HB9⟩
              case measure => exact HLT9.out
          · have hDS := dedStep_one HTOP.out HAE.out (fun h => hy h.2)
            obtain ⟨hF9, hlt9⟩ := HFIN.out w3 fA hs3 HFA.out hDS
            have HF9 := Lib.hid hF9
            have HLT9 := Lib.hid hlt9
            obtain ⟨A9, c9, p9, -⟩ := hs3.pairs
            have hk9 : (fA.k.length : Int) ≤ 1000000000000 := by have := HFA.out.k; omega
            have hy' : fA.s.t.at z c < 0 := by omega
            have hby := hbz.1
            clear hal hy hs3 hb3 hF9 hlt9 hDS hbz
            generalize fA.s.t.at z c = y at *
            generalize fA.s.t.length = n at *
            go_wp2_with (go_at_call 198; (refine HAL.out.mono ?_); rintro E w4 ⟨rfl, rfl⟩)
            go_roundw
            case rel => exact ⟨fA, rfl, Lib.hid ⟨HS3.out, HFA.out⟩, HF9, HB3⟩
            case measure => exact HLT9.out
        · rw [decide_eq_false hal] at HAL
          have hDS := dedStep_one HTOP.out HAE.out (fun h => hal h.1)
          obtain ⟨hF9, hlt9⟩ := HFIN.out w3 fA hs3 HFA.out hDS
          have HF9 := Lib.hid hF9
          have HLT9 := Lib.hid hlt9
          obtain ⟨A9, c9, p9, -⟩ := hs3.pairs
          have hk9 : (fA.k.length : Int) ≤ 1000000000000 := by have := HFA.out.k; omega
          clear hal hs3 hb3 hF9 hlt9 hDS
          go_wp2_with (go_at_call 198; (refine HAL.out.mono ?_); rintro E w4 ⟨rfl, rfl⟩)
          go_roundw
          case rel => exact ⟨fA, rfl, Lib.hid ⟨HS3.out, HFA.out⟩, HF9, HB3⟩
          case measure => exact HLT9.out
    · have h0 : f1.k = [] := List.length_eq_zero_iff.1 (by omega)
      have HE : Hid (f1 = F) := Lib.hid (by rw [← HF.out]; exact (ded_stop h0).symm)
      have hkz : (f1.k.length : Int) = 0 := by omega
      have HST := Lib.hid hst
      clear hst hfi hpt h0
      go_wp2_with fail
      go_end0
      exact ⟨rfl, by rw [← HE.out]; exact HST.out, HB.out⟩
end Go.Proofs
