/- What of a run of Felsch's strategy becomes less, counted in memory; (*felsch.deducer).deduce; (*felsch.deducer).complete; felsch.begin: its pieces. -/
import Derived.Test.YtmpnengjboabcaaFtCS16
import Derived.Test.YtmpnengjboabcaaFtCS5
import Derived.Test.YtmpnengjboabcaaFtCS14
namespace Go.Proofs.Ct
theorem countP_range (p : Int → Bool) : ∀ (row : List Int), row.countP p = (List.range row.length).countP fun c => p (row.getD c 0)
  | [] => rfl
  | x :: row => by
    rw [List.countP_cons, countP_range p row, List.length_cons, List.range_succ_eq_map, List.countP_cons, List.countP_map]
    rfl
theorem undT_range (t : Tb) {m : Nat} (hm : ∀ r, r < t.length → (t.row r).length = m) : undT t = ((List.range t.length).map fun r => (List.range m).countP fun c => decide (t.at r c < 0)).sum := by
  have h1 : t.map undL = (List.range t.length).map fun r => undL (t.row r) := by
    refine List.ext_getElem? fun i => ?_
    rcases Nat.lt_or_ge i t.length with h | h
    · rw [List.getElem?_map, List.getElem?_map, List.getElem?_eq_getElem h, List.getElem?_range h]
      show some (undL t[i]) = some (undL (t.row i))
      have : t.row i = t[i] := by
        show t.getD i [] = _
        rw [List.getD_eq_getElem?_getD, List.getElem?_eq_getElem h]
        rfl
      rw [this]
    · rw [List.getElem?_map, List.getElem?_map, List.getElem?_eq_none (by omega), List.getElem?_eq_none (by simpa using h)]
      rfl
  unfold undT
  rw [h1]
  congr 1
  refine List.map_congr_left fun r hr => ?_
  have hr' : r < t.length := List.mem_range.1 hr
  unfold undL
  rw [countP_range, hm r hr']
  rfl
end Go.Proofs.Ct
namespace Go.Proofs
open Go.RowKit Go.Shelf Go.Proofs.Ct Go.Maps
def negIn (w : World) (q c : Nat) : Bool := match w.cell? ⟨q, c, none⟩ with
  | some (.int _ x) => decide (x < 0)
  | _ => false
def liveIn (b : Nat) (w : World) : Nat := match w.cell? ⟨b, 6, none⟩ with
  | some (.int _ x) => x.toNat
  | _ => 0
def pairsIn (b : Nat) (w : World) : Nat := match w.cell? ⟨b, 5, none⟩ with
  | some (.slice _ n _) => n
  | _ => 0
def potIn (b m : Nat) (bl : Nat → Nat) (w : World) : Nat := liveIn b w * (3 * (rowsIn b w * m) + 1) + 2 * ((List.range (rowsIn b w)).map fun r => (List.range m).countP fun c => negIn w (bl r) c).sum + pairsIn b w
theorem StFB.potIn {K : Nat → Prop} {T : TypeId} {ex : List Value} {bl cs : Nat → Nat} {g base b wd lim : Nat} {w : World} {f : FS} (hI : Inv g f.s) (hS : StFB K T ex bl cs base b wd lim w f) : potIn b (2 * g) bl w = pot (2 * g) f := by
  have hn := StF.rowsIn ⟨bl, cs, hS⟩
  obtain ⟨A, c, hc, -⟩ := hS.pairs
  have hl : liveIn b w = f.s.live.toNat := by
    obtain ⟨-, P, vr, vp, vq, vk, hB, -⟩ := hS
    unfold liveIn
    rw [hB.cells.2.2.2.2.2.2.1]
  have hp : pairsIn b w = f.k.length := by
    unfold pairsIn
    rw [hc]
  have hu : ((List.range f.s.t.length).map fun r => (List.range (2 * g)).countP fun c => negIn w (bl r) c) = (List.range f.s.t.length).map fun r => (List.range (2 * g)).countP fun c => decide (f.s.t.at r c < 0) := by
    refine List.map_congr_left fun r hr => List.countP_congr fun c hc => ?_
    obtain ⟨gr, cr, -, -, h3⟩ := hS.at_ hI (List.mem_range.1 hr) (List.mem_range.1 hc)
    unfold negIn
    rw [h3]
  unfold Go.Proofs.potIn Ct.pot
  rw [hn, hl, hp, hu, ← undT_range f.s.t fun r hr => hI.len r hr]
end Go.Proofs
namespace Go.Proofs
open Go.RowKit Go.Shelf Go.Proofs.Ct Go.Maps
theorem r_slice_hi98 {o : Oper} {a : Act} {w : World} (x y : Operand) (A : Option Addr) (n c h : Nat) (ho : o.op = .slice 98 x none (some y) none) (hx : a.eval x = .slice A n c) (hy : a.eval y = .int .i64 (h : Int)) (hc : h ≤ c) : (execOp a.eval o).run Try.prog w = .ok (.value (sliced A 0 h c 2)) w := by
  have hu : Try.prog.underlying 98 = some (.slice (Try.prog.elem 98)) := by kernel_rfl
  have hs : (sizeOf (Try.prog.elem 98)).run Try.prog w = .ok 2 w := by kernel_rfl
  unfold execOp
  simp only [ho, hx, hy, Option.map_none, Option.map_some, Sem.run_bind, run_sliceAt_slice w 98 _ _ _ _ hu, run_slice_h w 98 A n c hu .i64 (h : Int) (by omega) (by omega)]
  simp [hs]
theorem letter_flpF (c : Nat) : letter (flp c) = -letter c := by
  by_cases h : c % 2 = 1
  · have e : flp c = c - 1 := if_neg (by omega)
    unfold letter
    rw [e, if_neg (by omega), if_pos h]
    omega
  · have e : flp c = c + 1 := if_pos (by omega)
    unfold letter
    rw [e, if_pos (by omega), if_neg h]
    omega
theorem StFB.more {K : Nat → Prop} {T : TypeId} {ex : List Value} {bl cs : Nat → Nat} {base b wd lim : Nat} {w : World} {f : FS} (hS : StFB K T ex bl cs base b wd lim w f) {k : Nat} {v : Value} (hv : ex[k]? = some v) : w.cell? ⟨b, 8 + k, none⟩ = some v := by
  obtain ⟨-, P, vr, vp, vq, vk, hB, -⟩ := hS
  exact hB.more hv
theorem call143 (args : Array Value) (w : World) : (callFunc 143 args).run Try.prog w = .ok (.enter 143 args) w := enters_of Try.func143 (by kernel_rfl) rfl args w
theorem call147 (args : Array Value) (w : World) : (callFunc 147 args).run Try.prog w = .ok (.enter 147 args) w := enters_of Try.func147 (by kernel_rfl) rfl args w
theorem fld161_0 (b : Nat) (w : World) : (Instr.fieldAt 161 (.pointer (some ⟨b, 0, none⟩)) 0).run Try.prog w = .ok (.pointer (some ⟨b, 0, none⟩)) w := by kernel_rfl
theorem fld161_1 (b : Nat) (w : World) : (Instr.fieldAt 161 (.pointer (some ⟨b, 0, none⟩)) 1).run Try.prog w = .ok (.pointer (some ⟨b, 8, none⟩)) w := by kernel_rfl
theorem agg159 (w : World) : (isAgg 159).run Try.prog w = .ok false w := by kernel_rfl
theorem sliced0_98 (g n c : Nat) : sliced (some ⟨g, 0, none⟩) 0 n c 2 = .slice (some ⟨g, 0, none⟩) n c := by
  unfold sliced
  split
  · simp
  · simp [Addr.add_lit]
theorem dedStep_two {m : Nat} {ws : Nat → List W} {f : FS} {z c y : Nat} {fA fB : FS} (htop : f.top = (z, c)) (hA : scansF m f.pop z (ws c) = fA) (hl : fA.s.rp z = z) (hy : fA.s.t.at z c = (y : Int)) (hB : scansF m fA y (ws (flp c)) = fB) : dedStep m ws f = fB := by
  unfold dedStep dedS
  rw [htop]
  simp only
  rw [hA, if_pos ⟨hl, by omega⟩, hy, Int.toNat_natCast, hB]
theorem dedStep_one {m : Nat} {ws : Nat → List W} {f : FS} {z c : Nat} {fA : FS} (htop : f.top = (z, c)) (hA : scansF m f.pop z (ws c) = fA) (hl : ¬ (fA.s.rp z = z ∧ 0 ≤ fA.s.t.at z c)) : dedStep m ws f = fA := by
  unfold dedStep dedS
  rw [htop]
  simp only
  rw [hA, if_neg hl]
set_option maxRecDepth 100000 in
set_option maxHeartbeats 1000000 in
theorem deduce145_any (K : Nat → Prop) (T : TypeId) (ex : List Value) (bl cs : Nat → Nat) (g m base b lim : Nat) (hm : m = 2 * g) (w : World) (f : FS) (ws : Nat → List W) (fm : Int → Value) (B0 nB : Nat) (hT : TyF T) (hR : Fine g f) (hS : StFB K T ex bl cs base b m lim w f) (hbw : base ≤ w.heap.size)
    (hex : ex[0]? = some (.map (some B0))) (hKB : K B0) (hM : MapL w B0 nB fm) (hv : ∀ c, c < m → ∀ W, Keeps base K w W → Tab W (fm (letter c)) (ws c)) (hl : ∀ c, c < m → ∀ j, j < (ws c).length → LOk g ((ws c).getD j [])) (hwl : ∀ c, c < m → ∀ j, ((ws c).getD j []).length ≤ 1000000) :
    Calls Try.prog 145 #[.pointer (some ⟨b, 0, none⟩)] w fun e w' => e = .returned (.tuple #[]) ∧ StFB K T ex bl cs base b m lim w' (ded m ws f) ∧ Keeps base K w w' := by
  have HT := Lib.hid hT
  have HM := Lib.hid hm
  have HBW := Lib.hid hbw
  have HL : Hid (∀ c, c < 2 * g → ∀ j, j < (ws c).length → LOk g ((ws c).getD j [])) := Lib.hid (by rw [← hm]; exact hl)
  have HV := Lib.hid hv
  have HWL := Lib.hid hwl
  have HMX : Hid (∀ W, Keeps base K w W → ∀ s, I64 s → (Instr.lookup 159 (.map (some B0)) (.int .i64 s) false).run Try.prog W = .ok (fm s) W) := Lib.hid fun W h s hs => (hM.keep (h.2 _ hKB)).look hs
  have HEX := Lib.hid hex
  have HREL : Hid (StFB K T ex bl cs base b m lim w f ∧ Fine g f) := Lib.hid ⟨hS, hR⟩
  obtain ⟨F, hFe⟩ : ∃ F, ded m ws f = F := ⟨_, rfl⟩
  have HFE := Lib.hid hFe
  rw [hFe]
  obtain ⟨A0, c0, hk0, -⟩ := hS.pairs
  have hkI : (f.k.length : Int) ≤ 1000000000000 := by have := hR.k; omega
  have hm32 : m ≤ 32 := by have := hR.g16; omega
  clear hT hbw hl hv hwl hM hex hS hR hFe hm
  go_enter Try.func145, Try.ntmps145
  go_wp2_with fail
  go_loopw [2] (fun n wr => ∃ f1 : FS, n = .int .i64 (f1.k.length : Int) ∧ Hid (StFB K T ex bl cs base b m lim wr f1 ∧ Fine g f1) ∧ Hid (ded m ws f1 = F) ∧ Hid (Keeps base K w wr)) (fun _ wr => potIn b m bl wr)
  case atStart => exact ⟨f, rfl, HREL, HFE, Lib.hid (Keeps.refl _ _ _)⟩
  case round =>
    clear HREL HFE hk0 hkI
    obtain ⟨f1, rfl, HS, HF, HB⟩ := hrel
    have hk0 : (0 : Int) ≤ (f1.k.length : Int) := Int.natCast_nonneg _
    obtain ⟨hst, hfi⟩ := HS.out
    obtain ⟨A, ck, hp, hpf, hpc, hpt⟩ := hst.pairs
    have hkI : (f1.k.length : Int) ≤ 1000000000000 := by have := hfi.k; omega
    by_cases hlt : 0 < f1.k.length
    · obtain ⟨gk, rfl, ht1, ht2⟩ := hpt hlt
      have hne : f1.k ≠ [] := List.length_pos_iff.1 hlt
      obtain ⟨hz1, hc1⟩ := hfi.rest.kok _ (top_mem hne)
      obtain ⟨z, c, htop⟩ : ∃ z c, f1.top = (z, c) := ⟨_, _, rfl⟩
      rw [htop] at ht1 ht2 hz1 hc1
      simp only at ht1 ht2 hz1 hc1
      have HPOP : Hid (∀ q, StFB K T ex bl cs base b m lim ((wr.drewN q).setCell ⟨b, 5, none⟩ (.slice (some ⟨gk, 0, none⟩) (f1.k.length - 1) ck)) f1.pop ∧ Keeps base K wr ((wr.drewN q).setCell ⟨b, 5, none⟩ (.slice (some ⟨gk, 0, none⟩) (f1.k.length - 1) ck))) := Lib.hid fun q => by
        have hbl := below_drewN (Below.refl wr.heap.size wr) q
        have h1 := (hst.below hbl).popd HT.out (by simpa using hp)
        exact ⟨h1.1, (Keeps.all hbl (Nat.le_trans HBW.out HB.out.size) hst.lt).trans h1.2⟩
      have hfp : Fine g f1.pop := hfi.pop
      have hcm : c < m := by rw [HM.out]; exact hc1
      have hfm : flp c < m := by rw [HM.out]; exact flp_lt2 hc1
      obtain ⟨fA, hA⟩ : ∃ fA, scansF m f1.pop z (ws c) = fA := ⟨_, rfl⟩
      have hxA : FExt g f1.pop fA := by rw [← hA, HM.out]; exact scans_F (HL.out c hc1) hfp.rest hz1
      have hfA : Fine g fA := hfp.ext hxA
      have hnA : fA.s.t.length = f1.s.t.length := hxA.n
      have HSA : Hid (∀ W, StFB K T ex bl cs base b m lim W f1.pop → Keeps base K w W → Calls Try.prog 147 #[.pointer (some ⟨b, 0, none⟩), .int .i64 (z : Int), fm (letter c)] W fun e w' => e = .returned (.tuple #[]) ∧ StFB K T ex bl cs base b m lim w' fA ∧ Keeps base K W w') := Lib.hid fun W h1 h2 => by
        have := scans147_any K T ex bl cs g m base b lim z HM.out W f1.pop (fm (letter c)) (ws c) HT.out hfp h1 (Nat.le_trans HBW.out h2.size) (fun W' h => HV.out c hcm W' (h2.trans h)) (HL.out c hc1) (HWL.out c hcm) hz1
        rw [hA] at this
        exact this
      have hbA : ∀ c', c' < 2 * g → -1 ≤ fA.s.t.at z c' ∧ fA.s.t.at z c' < fA.s.t.length := fun c' h => hfA.rest.rest.inv.bd z (by rw [hnA]; exact hz1) c' h
      have HDS := Lib.hid (ded_step (fun c h => HL.out c h) hfi.rest hne)
      have HLESS := Lib.hid (dedStep_less (fun c h => HL.out c h) hfi.rest hne)
      have HPI : Hid (∀ W f2, Inv g f2.s → StFB K T ex bl cs base b m lim W f2 → potIn b m bl W = pot m f2) := Lib.hid fun W f2 h1 h2 => by
        have := h2.potIn h1
        rwa [← HM.out] at this
      rw [← HM.out] at HDS HLESS
      have HPO := Lib.hid (HPI.out wr f1 hfi.rest.rest.inv hst)
      have hlbd := letter_bd (c := c) (by omega)
      have hI1 : I64 (letter c) := by unfold I64; omega
      have hI2 : I64 (-(letter c)) := by unfold I64; omega
      have hlb : -9223372036854775807 ≤ letter c ∧ letter c ≤ 9223372036854775807 := by omega
      have hc1000 : c ≤ 1000 := by omega
      have hz0 : (0 : Int) ≤ (z : Int) := Int.natCast_nonneg _
      have hc0 : (0 : Int) ≤ (c : Int) := Int.natCast_nonneg _
      have hkpos : (0 : Int) < (f1.k.length : Int) := by omega
      have HTOP := Lib.hid htop
      have HAE := Lib.hid hA
      have HFA := Lib.hid hfA
      have HZL : Hid (z < fA.s.t.length) := Lib.hid (by rw [hnA]; exact hz1)
      have HBA := Lib.hid hbA
      have HC1 := Lib.hid hc1
      obtain ⟨n1, hn1⟩ : ∃ n1, f1.k.length - 1 = n1 := ⟨_, rfl⟩
      rw [hn1] at ht1 ht2 HPOP
      have hn2 : (f1.k.length : Int) - 1 = (n1 : Int) := by omega
      have hn0 : (0 : Int) ≤ (n1 : Int) := Int.natCast_nonneg _
      have hn3 : (n1 : Int) < (f1.k.length : Int) := by omega
      have hn4 : n1 ≤ ck := by omega
      have hsl := sliced0_98 gk n1 ck
      clear hst hfi hpc hpt hne hz1 hc1 htop hfp hxA hfA hnA hbA hlt hcm hfm hA
      go_wp2_with fail
      go_quiet (fail)
      go_upto_region 5 with ((with_reducible refine wpList_sel 47 ?_); refine wpList_val rfl (r_slice_hi98 (.tmp 44) (.tmp 46) _ _ _ n1 rfl rfl rfl hn4) ?_; rw [hsl])
      obtain ⟨hs0, hb0⟩ := HPOP.out nq
      generalize hwy : (wr.drewN nq).setCell ⟨b, 5, none⟩ (.slice (some ⟨gk, 0, none⟩) n1 ck) = wy at *
      replace hs0 := hs0.below (Below.refl _ _).drew
      replace hb0 := hb0.drew
      obtain ⟨w0, hw0⟩ : ∃ w0, w0 = wy.drew := ⟨_, rfl⟩
      rw [← hw0] at hs0 hb0
      have HB0 := Lib.hid (HB.out.trans hb0)
      have HMC := Lib.hid (hs0.more HEX.out)
      have HLK1 := Lib.hid (HMX.out _ HB0.out _ hI1)
      have HSA := Lib.hid (HSA.out _ hs0 HB0.out)
      clear HPOP hp hpf ht1 ht2 hsl hs0 hb0 hwy
      refine (wpIn_wide (n := 3)).1 ?_
      refine wpIn_region_all (by kernel_rfl) 12 rfl (fun i => some (51 + i)) (lex_of (by kernel_rfl)) (fun ls W => (ls 11 = false → W = w0) ∧ (ls 11 = true → StFB K T ex bl cs base b m lim W fA ∧ Keeps base K w0 W))
        (fun i v _ => v = ([.pointer (some ⟨b, 0, none⟩), .pointer (some ⟨b, 0, none⟩), .pointer (some ⟨b, 0, none⟩), .int .i64 (z : Int), .pointer (some ⟨b, 0, none⟩), .pointer (some ⟨b, 0, none⟩), .pointer (some ⟨b, 8, none⟩), .map (some B0), .int .i64 (c : Int), .int .i64 (letter c), fm (letter c), .tuple #[]] : List Value).getD i undef) (fun _ _ _ => True) (dm_inj (by kernel_rfl)) (fun _ _ _ _ _ _ _ _ _ h => h) (dm_lt (n := 105) (by kernel_rfl)) ⟨fun _ => hw0.symm, fun h => by cases h⟩ ?_ ?_
      · intro ls q o a w2 hq ho hS2 hls hcl hP hpre
        have hcases : q = 0 ∨ q = 1 ∨ q = 2 ∨ q = 3 ∨ q = 4 ∨ q = 5 ∨ q = 6 ∨ q = 7 ∨ q = 8 ∨ q = 9 ∨ q = 10 ∨ q = 11 := by
          have : q < 12 := hq
          omega
        rcases hcases with rfl | rfl | rfl | rfl | rfl | rfl | rfl | rfl | rfl | rfl | rfl | rfl
        · obtain rfl := Option.some.inj ho
          exact wpOpIn_of rfl rfl (wpW_val (r_move (.tmp 0) rfl (hP.out 0 (dm_out (by kernel_rfl)))) ⟨_, rfl, hS2, trivial, (fun h => by simp at h), rfl⟩)
        · obtain rfl := Option.some.inj ho
          exact wpOpIn_of rfl rfl (wpW_val (r_nil (.tmp 51) _ rfl (hpre ⟨0, .data⟩ (by simp) rfl).2) ⟨_, rfl, hS2, trivial, (fun h => by simp at h), rfl⟩)
        · obtain rfl := Option.some.inj ho
          exact wpOpIn_of rfl rfl (wpW_val (r_fld (.tmp 52) _ rfl (hpre ⟨1, .data⟩ (by simp) rfl).2 (fld161_0 b _)) ⟨_, rfl, hS2, trivial, (fun h => by simp at h), rfl⟩)
        · obtain rfl := Option.some.inj ho
          exact wpOpIn_of rfl rfl (wpW_val (r_move (.tmp 3) rfl (hP.out 3 (dm_out (by kernel_rfl)))) ⟨_, rfl, hS2, trivial, (fun h => by simp at h), rfl⟩)
        · obtain rfl := Option.some.inj ho
          exact wpOpIn_of rfl rfl (wpW_val (r_move (.tmp 0) rfl (hP.out 0 (dm_out (by kernel_rfl)))) ⟨_, rfl, hS2, trivial, (fun h => by simp at h), rfl⟩)
        · obtain rfl := Option.some.inj ho
          exact wpOpIn_of rfl rfl (wpW_val (r_nil (.tmp 55) _ rfl (hpre ⟨4, .data⟩ (by simp) rfl).2) ⟨_, rfl, hS2, trivial, (fun h => by simp at h), rfl⟩)
        · obtain rfl := Option.some.inj ho
          exact wpOpIn_of rfl rfl (wpW_val (r_fld (.tmp 56) _ rfl (hpre ⟨5, .data⟩ (by simp) rfl).2 (fld161_1 b _)) ⟨_, rfl, hS2, trivial, (fun h => by simp at h), rfl⟩)
        · obtain rfl := Option.some.inj ho
          have h10 := not_yet hcl 10 rfl ⟨7, .data⟩ (by simp) rfl hls
          have h11 := not_yet hcl 11 rfl ⟨10, .data⟩ (by simp) rfl h10
          have hw := hS2.1 h11
          exact wpOpIn_of rfl rfl (wpW_val (r_load1 159 agg159 (.tmp 57) ⟨b, 8, none⟩ rfl (hpre ⟨6, .data⟩ (by simp) rfl).2 (hw ▸ HMC.out)) ⟨_, rfl, hS2, trivial, (fun h => by simp at h), rfl⟩)
        · obtain rfl := Option.some.inj ho
          exact wpOpIn_of rfl rfl (wpW_val (r_move (.tmp 4) rfl (hP.out 4 (dm_out (by kernel_rfl)))) ⟨_, rfl, hS2, trivial, (fun h => by simp at h), rfl⟩)
        · obtain rfl := Option.some.inj ho
          exact wpOpIn_of rfl rfl (wpW_call (R := fun v w' => v = .int .i64 (letter c) ∧ w' = w2) (r_call1 (.tmp 59) _ _ rfl (hpre ⟨8, .data⟩ (by simp) rfl).2 call143) ((letter143_any w2 c hc1000).mono fun e w' ⟨he, hw⟩ => ⟨_, he, rfl, hw.symm⟩)
            (fun v w'' ⟨hv, hw⟩ => ⟨v, rfl, hw ▸ hS2, trivial, (fun h => by simp at h), hv⟩))
        · obtain rfl := Option.some.inj ho
          have h11 := not_yet hcl 11 rfl ⟨10, .data⟩ (by simp) rfl hls
          have hw := hS2.1 h11
          exact wpOpIn_of rfl rfl (wpW_val (r_look 159 (.tmp 58) (.tmp 60) rfl (hpre ⟨7, .data⟩ (by simp) rfl).2 (hpre ⟨9, .data⟩ (by simp) rfl).2 (hw ▸ HLK1.out)) ⟨_, rfl, hS2, trivial, (fun h => by simp at h), rfl⟩)
        · obtain rfl := Option.some.inj ho
          have hw := hS2.1 hls
          subst hw
          exact wpOpIn_of rfl rfl (wpW_call (R := fun v w' => v = .tuple #[] ∧ StFB K T ex bl cs base b m lim w' fA ∧ Keeps base K w2 w') (r_call3 (.tmp 53) (.tmp 54) (.tmp 61) _ _ _ _ rfl (hpre ⟨2, .data⟩ (by simp) rfl).2 (hpre ⟨3, .data⟩ (by simp) rfl).2 (hpre ⟨10, .data⟩ (by simp) rfl).2 call147) (HSA.out.mono fun e w' ⟨he, h⟩ => ⟨_, he, rfl, h⟩)
            (fun v w'' ⟨hv, h⟩ => ⟨v, rfl, ⟨(fun h => by simp at h), fun _ => h⟩, trivial, (fun h => by simp at h), hv⟩))

      · intro ls a w3 hall hS2 hP hsl2
        have h11 : ls 11 = true := hall 11 (by decide)
        obtain ⟨hs3, hb3⟩ := hS2.2 h11
        obtain ⟨vs, hvs, hfr⟩ := hP.frame 105 rfl
        clear hsl2 hP hall h11 hvs hS2 HSA HLK1 HMC
        subst hfr
        dsimp only
        simp only [List.range, List.range.loop, List.map_cons, List.map_nil, List.any_cons, List.any_nil, Nat.reduceAdd, Nat.reduceBEq, Option.some_beq_some, Bool.or_false, if_true, if_false, Bool.false_eq_true, List.getD_cons_zero, List.getD_cons_succ]
        have HB3 := Lib.hid (HB0.out.trans hb3)
        have HS3 := Lib.hid hs3
        have HAL := Lib.hid (alive198_any K T ex bl cs base b m lim z w3 fA hs3 HZL.out)
        have HFIN : Hid (∀ W f9, StFB K T ex bl cs base b m lim W f9 → Fine g f9 → dedStep m ws f1 = f9 → ded m ws f9 = F ∧ potIn b m bl W < potIn b m bl wr) := Lib.hid fun W f9 h1 h2 h3 => ⟨by rw [← h3, ← HDS.out]; exact HF.out, by rw [HPO.out, HPI.out W f9 h2.rest.rest.inv h1, ← h3]; exact HLESS.out⟩
        clear HDS HLESS HPO HPI
        by_cases hal : fA.s.rp z = z
        · rw [decide_eq_true hal] at HAL
          obtain ⟨gr, cr, r1, r2, r3⟩ := hs3.at_ HFA.out.rest.rest.inv HZL.out HC1.out
          rw [← HM.out] at r2
          have hzI : (z : Int) < (fA.s.t.length : Int) := by have := HZL.out; omega
          have hcI : (c : Int) < (m : Int) := by have := HC1.out; have := HM.out; omega
          have hbz := HBA.out c HC1.out
          have hnI : (fA.s.t.length : Int) ≤ 1000 := by have := HFA.out.n; omega
          by_cases hy : 0 ≤ fA.s.t.at z c
          · obtain ⟨y, hye⟩ : ∃ y : Nat, fA.s.t.at z c = (y : Int) := ⟨(fA.s.t.at z c).toNat, by omega⟩
            rw [hye] at r3 hbz
            obtain ⟨fB, hBe⟩ : ∃ fB, scansF m fA y (ws (flp c)) = fB := ⟨_, rfl⟩
            have hDS := dedStep_two HTOP.out HAE.out hal hye hBe
            have hyl : y < fA.s.t.length := by omega
            have hfl : flp c < 2 * g := flp_lt2 HC1.out
            have hxB : FExt g fA fB := by rw [← hBe, HM.out]; exact scans_F (HL.out _ hfl) HFA.out.rest hyl
            have hfB : Fine g fB := HFA.out.ext hxB
            have HFB := Lib.hid hfB
            have HDS := Lib.hid hDS
            have HSB : Hid (∀ W, StFB K T ex bl cs base b m lim W fA → Keeps base K w W → Calls Try.prog 147 #[.pointer (some ⟨b, 0, none⟩), .int .i64 (y : Int), fm (-(letter c))] W fun e w' => e = .returned (.tuple #[]) ∧ StFB K T ex bl cs base b m lim w' fB ∧ Keeps base K W w') := Lib.hid fun W h1 h2 => by
              have hfm : flp c < m := by rw [HM.out]; exact hfl
              have := scans147_any K T ex bl cs g m base b lim y HM.out W fA (fm (letter (flp c))) (ws (flp c)) HT.out HFA.out h1 (Nat.le_trans HBW.out h2.size) (fun W' h => HV.out _ hfm W' (h2.trans h)) (HL.out _ hfl) (HWL.out _ hfm) hyl
              rw [hBe, letter_flpF] at this
              exact this
            have hzn : z < fA.s.t.length := HZL.out
            have hcm : c < m := by rw [HM.out]; exact HC1.out
            have hy0 : (0 : Int) ≤ (y : Int) := Int.natCast_nonneg _
            clear hal hy hye hBe hDS hxB hfB hbz hs3 hb3
            generalize fA.s.t.length = n at *
            go_upto_region 7 with (go_at_call 198; (refine HAL.out.mono ?_); rintro E w4 ⟨rfl, rfl⟩)
            have hs3 := HS3.out.below (Below.refl _ _).drew
            have hb3 := HB3.out.drew
            have r1 : w4.drew.cell? ⟨b, 2, none⟩ = _ := r1
            have r2 : w4.drew.cell? ⟨gr, z, none⟩ = _ := r2
            have r3 : w4.drew.cell? ⟨bl z, c, none⟩ = _ := r3
            clear w0 hw0 HB0
            obtain ⟨w0, hw0⟩ : ∃ w0, w0 = w4.drew := ⟨_, rfl⟩
            rw [← hw0] at hs3 hb3 r1 r2 r3
            have HR1 := Lib.hid r1
            have HR2 := Lib.hid r2
            have HR3 := Lib.hid r3
            have HMC := Lib.hid (hs3.more HEX.out)
            have HLK2 := Lib.hid (HMX.out _ hb3 _ hI2)
            have HSB := Lib.hid (HSB.out _ hs3 hb3)
            have HB0 := Lib.hid hb3
            clear r1 r2 r3 hs3 hb3
            refine (wpIn_wide (n := 3)).1 ?_
            refine wpIn_region_all (by kernel_rfl) 23 rfl (fun i => some (82 + i)) (lex_of (by kernel_rfl)) (fun ls W => (ls 22 = false → W = w0) ∧ (ls 22 = true → StFB K T ex bl cs base b m lim W fB ∧ Keeps base K w0 W))
              (fun i v _ => v = ([.pointer (some ⟨b, 0, none⟩), .pointer (some ⟨b, 0, none⟩), .pointer (some ⟨b, 0, none⟩), .pointer (some ⟨b, 0, none⟩), .pointer (some ⟨b, 0, none⟩), .pointer (some ⟨b, 0, none⟩), .pointer (some ⟨b, 2, none⟩), .slice (some ⟨gr, 0, none⟩) n cr, .int .i64 (z : Int), .pointer (some ⟨gr, z, none⟩), .slice (some ⟨bl z, 0, none⟩) m (cs z), .int .i64 (c : Int), .pointer (some ⟨(bl z), c, none⟩), .int .i64 (y : Int), .pointer (some ⟨b, 0, none⟩), .pointer (some ⟨b, 0, none⟩), .pointer (some ⟨b, 8, none⟩), .map (some B0), .int .i64 (c : Int), .int .i64 (letter c), .int .i64 (-(letter c)), fm (-(letter c)), .tuple #[]] : List Value).getD i undef) (fun _ _ _ => True) (dm_inj (by kernel_rfl)) (fun _ _ _ _ _ _ _ _ _ h => h) (dm_lt (n := 105) (by kernel_rfl)) ⟨fun _ => hw0.symm, fun h => by cases h⟩ ?_ ?_
            · intro ls q o a w2 hq ho hS2 hls hcl hP hpre
              have hcases : q = 0 ∨ q = 1 ∨ q = 2 ∨ q = 3 ∨ q = 4 ∨ q = 5 ∨ q = 6 ∨ q = 7 ∨ q = 8 ∨ q = 9 ∨ q = 10 ∨ q = 11 ∨ q = 12 ∨ q = 13 ∨ q = 14 ∨ q = 15 ∨ q = 16 ∨ q = 17 ∨ q = 18 ∨ q = 19 ∨ q = 20 ∨ q = 21 ∨ q = 22 := by
                have : q < 23 := hq
                omega
              rcases hcases with rfl | rfl | rfl | rfl | rfl | rfl | rfl | rfl | rfl | rfl | rfl | rfl | rfl | rfl | rfl | rfl | rfl | rfl | rfl | rfl | rfl | rfl | rfl
              · obtain rfl := Option.some.inj ho
                exact wpOpIn_of rfl rfl (wpW_val (r_move (.tmp 0) rfl (hP.out 0 (dm_out (by kernel_rfl)))) ⟨_, rfl, hS2, trivial, (fun h => by simp at h), rfl⟩)
              · obtain rfl := Option.some.inj ho
                exact wpOpIn_of rfl rfl (wpW_val (r_nil (.tmp 82) _ rfl (hpre ⟨0, .data⟩ (by simp) rfl).2) ⟨_, rfl, hS2, trivial, (fun h => by simp at h), rfl⟩)
              · obtain rfl := Option.some.inj ho
                exact wpOpIn_of rfl rfl (wpW_val (r_fld (.tmp 83) _ rfl (hpre ⟨1, .data⟩ (by simp) rfl).2 (fld161_0 b _)) ⟨_, rfl, hS2, trivial, (fun h => by simp at h), rfl⟩)
              · obtain rfl := Option.some.inj ho
                exact wpOpIn_of rfl rfl (wpW_val (r_move (.tmp 0) rfl (hP.out 0 (dm_out (by kernel_rfl)))) ⟨_, rfl, hS2, trivial, (fun h => by simp at h), rfl⟩)
              · obtain rfl := Option.some.inj ho
                exact wpOpIn_of rfl rfl (wpW_val (r_nil (.tmp 85) _ rfl (hpre ⟨3, .data⟩ (by simp) rfl).2) ⟨_, rfl, hS2, trivial, (fun h => by simp at h), rfl⟩)
              · obtain rfl := Option.some.inj ho
                exact wpOpIn_of rfl rfl (wpW_val (r_fld (.tmp 86) _ rfl (hpre ⟨4, .data⟩ (by simp) rfl).2 (fld161_0 b _)) ⟨_, rfl, hS2, trivial, (fun h => by simp at h), rfl⟩)
              · obtain rfl := Option.some.inj ho
                exact wpOpIn_of rfl rfl (wpW_val (r_fld (.tmp 87) _ rfl (hpre ⟨5, .data⟩ (by simp) rfl).2 (fld151_2 b _)) ⟨_, rfl, hS2, trivial, (fun h => by simp at h), rfl⟩)
              · obtain rfl := Option.some.inj ho
                have h9 := not_yet hcl 9 rfl ⟨7, .data⟩ (by simp) rfl hls
                have h10 := not_yet hcl 10 rfl ⟨9, .data⟩ (by simp) rfl h9
                have h12 := not_yet hcl 12 rfl ⟨10, .data⟩ (by simp) rfl h10
                have h13 := not_yet hcl 13 rfl ⟨12, .data⟩ (by simp) rfl h12
                have h22 := not_yet hcl 22 rfl ⟨13, .data⟩ (by simp) rfl h13
                have hw := hS2.1 h22
                exact wpOpIn_of rfl rfl (wpW_val (r_load1 22 agg22 (.tmp 88) ⟨b, 2, none⟩ rfl (hpre ⟨6, .data⟩ (by simp) rfl).2 (hw ▸ HR1.out)) ⟨_, rfl, hS2, trivial, (fun h => by simp at h), rfl⟩)
              · obtain rfl := Option.some.inj ho
                exact wpOpIn_of rfl rfl (wpW_val (r_move (.tmp 3) rfl (hP.out 3 (dm_out (by kernel_rfl)))) ⟨_, rfl, hS2, trivial, (fun h => by simp at h), rfl⟩)
              · obtain rfl := Option.some.inj ho
                exact wpOpIn_of rfl rfl (wpW_val (r_idx (.tmp 89) (.tmp 90) _ _ rfl (hpre ⟨7, .data⟩ (by simp) rfl).2 (hpre ⟨8, .data⟩ (by simp) rfl).2 (idx_sl Try.underlying22 size24 gr _ cr z hzn _)) ⟨_, rfl, hS2, trivial, (fun h => by simp at h), rfl⟩)
              · obtain rfl := Option.some.inj ho
                have h12 := not_yet hcl 12 rfl ⟨10, .data⟩ (by simp) rfl hls
                have h13 := not_yet hcl 13 rfl ⟨12, .data⟩ (by simp) rfl h12
                have h22 := not_yet hcl 22 rfl ⟨13, .data⟩ (by simp) rfl h13
                have hw := hS2.1 h22
                exact wpOpIn_of rfl rfl (wpW_val (r_load1 24 agg24 (.tmp 91) ⟨gr, z, none⟩ rfl (hpre ⟨9, .data⟩ (by simp) rfl).2 (hw ▸ HR2.out)) ⟨_, rfl, hS2, trivial, (fun h => by simp at h), rfl⟩)
              · obtain rfl := Option.some.inj ho
                exact wpOpIn_of rfl rfl (wpW_val (r_move (.tmp 4) rfl (hP.out 4 (dm_out (by kernel_rfl)))) ⟨_, rfl, hS2, trivial, (fun h => by simp at h), rfl⟩)
              · obtain rfl := Option.some.inj ho
                exact wpOpIn_of rfl rfl (wpW_val (r_idx (.tmp 92) (.tmp 93) _ _ rfl (hpre ⟨10, .data⟩ (by simp) rfl).2 (hpre ⟨11, .data⟩ (by simp) rfl).2 (idx_sl Try.underlying24 size3 (bl z) _ (cs z) c hcm _)) ⟨_, rfl, hS2, trivial, (fun h => by simp at h), rfl⟩)
              · obtain rfl := Option.some.inj ho
                have h22 := not_yet hcl 22 rfl ⟨13, .data⟩ (by simp) rfl hls
                have hw := hS2.1 h22
                exact wpOpIn_of rfl rfl (wpW_val (r_load1 3 agg3 (.tmp 94) ⟨bl z, c, none⟩ rfl (hpre ⟨12, .data⟩ (by simp) rfl).2 (hw ▸ HR3.out)) ⟨_, rfl, hS2, trivial, (fun h => by simp at h), rfl⟩)
              · obtain rfl := Option.some.inj ho
                exact wpOpIn_of rfl rfl (wpW_val (r_move (.tmp 0) rfl (hP.out 0 (dm_out (by kernel_rfl)))) ⟨_, rfl, hS2, trivial, (fun h => by simp at h), rfl⟩)
              · obtain rfl := Option.some.inj ho
                exact wpOpIn_of rfl rfl (wpW_val (r_nil (.tmp 96) _ rfl (hpre ⟨14, .data⟩ (by simp) rfl).2) ⟨_, rfl, hS2, trivial, (fun h => by simp at h), rfl⟩)
              · obtain rfl := Option.some.inj ho
                exact wpOpIn_of rfl rfl (wpW_val (r_fld (.tmp 97) _ rfl (hpre ⟨15, .data⟩ (by simp) rfl).2 (fld161_1 b _)) ⟨_, rfl, hS2, trivial, (fun h => by simp at h), rfl⟩)
              · obtain rfl := Option.some.inj ho
                have h21 := not_yet hcl 21 rfl ⟨17, .data⟩ (by simp) rfl hls
                have h22 := not_yet hcl 22 rfl ⟨21, .data⟩ (by simp) rfl h21
                have hw := hS2.1 h22
                exact wpOpIn_of rfl rfl (wpW_val (r_load1 159 agg159 (.tmp 98) ⟨b, 8, none⟩ rfl (hpre ⟨16, .data⟩ (by simp) rfl).2 (hw ▸ HMC.out)) ⟨_, rfl, hS2, trivial, (fun h => by simp at h), rfl⟩)
              · obtain rfl := Option.some.inj ho
                exact wpOpIn_of rfl rfl (wpW_val (r_move (.tmp 4) rfl (hP.out 4 (dm_out (by kernel_rfl)))) ⟨_, rfl, hS2, trivial, (fun h => by simp at h), rfl⟩)
              · obtain rfl := Option.some.inj ho
                exact wpOpIn_of rfl rfl (wpW_call (R := fun v w' => v = .int .i64 (letter c) ∧ w' = w2) (r_call1 (.tmp 100) _ _ rfl (hpre ⟨18, .data⟩ (by simp) rfl).2 call143) ((letter143_any w2 c hc1000).mono fun e w' ⟨he, hw⟩ => ⟨_, he, rfl, hw.symm⟩)
                  (fun v w'' ⟨hv, hw⟩ => ⟨v, rfl, hw ▸ hS2, trivial, (fun h => by simp at h), hv⟩))
              · obtain rfl := Option.some.inj ho
                exact wpOpIn_of rfl rfl (wpW_val (r_neg (.tmp 101) (letter c) rfl (hpre ⟨19, .data⟩ (by simp) rfl).2 hlb) ⟨_, rfl, hS2, trivial, (fun h => by simp at h), rfl⟩)
              · obtain rfl := Option.some.inj ho
                have h22 := not_yet hcl 22 rfl ⟨21, .data⟩ (by simp) rfl hls
                have hw := hS2.1 h22
                exact wpOpIn_of rfl rfl (wpW_val (r_look 159 (.tmp 99) (.tmp 102) rfl (hpre ⟨17, .data⟩ (by simp) rfl).2 (hpre ⟨20, .data⟩ (by simp) rfl).2 (hw ▸ HLK2.out)) ⟨_, rfl, hS2, trivial, (fun h => by simp at h), rfl⟩)
              · obtain rfl := Option.some.inj ho
                have hw := hS2.1 hls
                subst hw
                exact wpOpIn_of rfl rfl (wpW_call (R := fun v w' => v = .tuple #[] ∧ StFB K T ex bl cs base b m lim w' fB ∧ Keeps base K w2 w') (r_call3 (.tmp 84) (.tmp 95) (.tmp 103) _ _ _ _ rfl (hpre ⟨2, .data⟩ (by simp) rfl).2 (hpre ⟨13, .data⟩ (by simp) rfl).2 (hpre ⟨21, .data⟩ (by simp) rfl).2 call147) (HSB.out.mono fun e w' ⟨he, h⟩ => ⟨_, he, rfl, h⟩)
                  (fun v w'' ⟨hv, h⟩ => ⟨v, rfl, ⟨(fun h => by simp at h), fun _ => h⟩, trivial, (fun h => by simp at h), hv⟩))

            · intro ls a w9 hall hS2 hP hsl2
              have h22 : ls 22 = true := hall 22 (by decide)
              obtain ⟨hs9, hb9⟩ := hS2.2 h22
              obtain ⟨vs9, hvs, hfr⟩ := hP.frame 105 rfl
              clear hsl2 hP hall h22 hvs hS2 HSB HLK2 HMC HR1 HR2 HR3
              subst hfr
              dsimp only
              simp only [List.range, List.range.loop, List.map_cons, List.map_nil, List.any_cons, List.any_nil, Nat.reduceAdd, Nat.reduceBEq, Option.some_beq_some, Bool.or_false, if_true, if_false, Bool.false_eq_true, List.getD_cons_zero, List.getD_cons_succ]
              have HB9 := Lib.hid (HB0.out.trans hb9)
              have HS9 := Lib.hid hs9
              obtain ⟨hF9, hlt9⟩ := HFIN.out w9 fB hs9 HFB.out HDS.out
              have HF9 := Lib.hid hF9
              have HLT9 := Lib.hid hlt9
              obtain ⟨A9, c9, p9, -⟩ := hs9.pairs
              have hk9 : (fB.k.length : Int) ≤ 1000000000000 := by have := HFB.out.k; omega
              clear hs9 hb9 hF9 hlt9 hw0 HB0 w0 HAL HFIN HS3 HB3 HFA hzn hcm hy0 hzI hcI hnI hfl hyl hI1 hI2 hlb hlbd HAE HTOP HBA HC1 HZL HMX HWL HV HL
              go_wp2_with fail
              go_roundw
              case rel => exact ⟨fB, rfl, Lib.hid ⟨HS9.out, HFB.out⟩, HF9, HB9⟩
              case measure => exact HLT9.out
          · have hDS := dedStep_one HTOP.out HAE.out (fun h => hy h.2)
            obtain ⟨hF9, hlt9⟩ := HFIN.out w3 fA hs3 HFA.out hDS
            have HF9 := Lib.hid hF9
            have HLT9 := Lib.hid hlt9
            obtain ⟨A9, c9, p9, -⟩ := hs3.pairs
            have hk9 : (fA.k.length : Int) ≤ 1000000000000 := by have := HFA.out.k; omega
            have hy' : fA.s.t.at z c < 0 := by omega
            have hby := hbz.1
            clear hal hy hs3 hb3 hF9 hlt9 hDS hbz
            generalize fA.s.t.at z c = y at *
            generalize fA.s.t.length = n at *
            go_wp2_with (go_at_call 198; (refine HAL.out.mono ?_); rintro E w4 ⟨rfl, rfl⟩)
            go_roundw
            case rel => exact ⟨fA, rfl, Lib.hid ⟨HS3.out, HFA.out⟩, HF9, HB3⟩
            case measure => exact HLT9.out
        · rw [decide_eq_false hal] at HAL
          have hDS := dedStep_one HTOP.out HAE.out (fun h => hal h.1)
          obtain ⟨hF9, hlt9⟩ := HFIN.out w3 fA hs3 HFA.out hDS
          have HF9 := Lib.hid hF9
          have HLT9 := Lib.hid hlt9
          obtain ⟨A9, c9, p9, -⟩ := hs3.pairs
          have hk9 : (fA.k.length : Int) ≤ 1000000000000 := by have := HFA.out.k; omega
          clear hal hs3 hb3 hF9 hlt9 hDS
          go_wp2_with (go_at_call 198; (refine HAL.out.mono ?_); rintro E w4 ⟨rfl, rfl⟩)
          go_roundw
          case rel => exact ⟨fA, rfl, Lib.hid ⟨HS3.out, HFA.out⟩, HF9, HB3⟩
          case measure => exact HLT9.out
    · have h0 : f1.k = [] := List.length_eq_zero_iff.1 (by omega)
      have HE : Hid (f1 = F) := Lib.hid (by rw [← HF.out]; exact (ded_stop h0).symm)
      have hkz : (f1.k.length : Int) = 0 := by omega
      have HST := Lib.hid hst
      clear hst hfi hpt h0
      go_wp2_with fail
      go_end0
      exact ⟨rfl, by rw [← HE.out]; exact HST.out, HB.out⟩
end Go.Proofs
namespace Go.Proofs
open Go.RowKit Go.Shelf Go.Proofs.Ct Go.Maps
def idxOf1 (xs : List Int) (z : Int) : Int := match first (fun k => decide (xs.getD k 0 = z)) xs.length with
  | some k => (k : Int)
  | none => -1
set_option maxRecDepth 100000 in
set_option maxHeartbeats 400000 in
theorem idx186_first (w : World) (v : Value) (xs : List Int) (z : Int) (h : IntsAt w v xs) : Calls Try.prog 186 #[v, .int .i64 z] w fun e w' => e = .returned (.int .i64 (idxOf1 xs z)) ∧ w = w' := by
  obtain ⟨A, c, rfl, hc1, hc2, hc⟩ := h.open_
  have HC := Lib.hid hc
  have HT : Hid (∀ k, k < xs.length → (∀ j, j < k → xs.getD j 0 ≠ z) → xs.getD k 0 = z → idxOf1 xs z = (k : Int)) := Lib.hid fun k hk h1 h2 => by
    unfold idxOf1
    rw [first_some hk (by simpa using h2) fun j hj => by simpa using h1 j hj]
  have HF : Hid ((∀ j, j < xs.length → xs.getD j 0 ≠ z) → idxOf1 xs z = -1) := Lib.hid fun h1 => by
    unfold idxOf1
    rw [first_none fun j hj => by simpa using h1 j hj]
  generalize idxOf1 xs z = F at *
  clear hc h
  go_enter Try.func186, Try.ntmps186
  go_wp2_with fail
  go_loopw [5, 8] (fun _ i wr => ∃ k : Nat, k ≤ xs.length ∧ i = .int .i64 k ∧ Hid (∀ j, j < k → xs.getD j 0 ≠ z) ∧ w = wr) (fun _ i _ => xs.length - (intOf i).toNat)
  case atStart => exact ⟨0, Nat.zero_le _, rfl, Lib.hid fun j hj => absurd hj (by omega), rfl⟩
  case round =>
    obtain ⟨k, hk, rfl, HZ, rfl⟩ := hrel
    have hk0 : (0 : Int) ≤ (k : Int) := Int.natCast_nonneg _
    by_cases hlt : k < xs.length
    · have hlt' : (k : Int) < (xs.length : Int) := by omega
      obtain ⟨b, o, rfl, hcc⟩ := HC.out (by omega)
      have hck := hcc k hlt
      have HT1 := Lib.hid (HT.out k hlt HZ.out)
      have HN : Hid (xs.getD k 0 ≠ z → ∀ j, j < k + 1 → xs.getD j 0 ≠ z) := Lib.hid fun h => all_succ HZ.out h
      clear hcc
      generalize xs.getD k 0 = x at *
      by_cases hx : z = x
      · have d1 : (z == x) = true := by simpa using hx
        have HT2 := Lib.hid (HT1.out hx.symm)
        clear hx
        go_wp2_with fail
        go_ret
        exact ⟨ret_int HT2.out.symm, (by first | trivial | rfl)⟩
      · have d1 : (z == x) = false := by simpa using hx
        have HN2 := Lib.hid (HN.out fun h => hx h.symm)
        clear hx
        go_wp2_with fail
        go_roundw
        case rel => exact ⟨k + 1, by omega, by go_num, HN2, (by first | trivial | rfl)⟩
        case measure => simp [intOf]; omega
    · obtain rfl : k = xs.length := by omega
      have HF2 := Lib.hid (HF.out HZ.out)
      go_wp2_with fail
      go_ret
      exact ⟨ret_int HF2.out.symm, (by first | trivial | rfl)⟩
namespace Ct
theorem idx_open {g : Nat} {s : St} (hI : Inv g s) {r : Nat} (hr : r < s.t.length) : idxOf1 (s.t.row r) (-1) = match openC (2 * g) s r with | some c => (c : Int) | none => -1 := by
  unfold idxOf1 openC
  rw [hI.len r hr]
  have e : ∀ k, k < 2 * g → (decide ((s.t.row r).getD k 0 = -1)) = decide (s.t.at r k < 0) := fun k hk => by
    have := hI.bd r hr k hk
    have e2 : (s.t.row r).getD k 0 = s.t.at r k := rfl
    rw [e2]
    by_cases h : s.t.at r k < 0
    · rw [decide_eq_true h, decide_eq_true (by omega)]
    · rw [decide_eq_false h, decide_eq_false (by omega)]
  cases h1 : first (fun c => decide (s.t.at r c < 0)) (2 * g) with
  | none =>
    rw [first_none fun j hj => by rw [e j hj]; exact first_none' h1 j hj]
  | some c =>
    obtain ⟨a, b, c'⟩ := first_some' h1
    rw [first_some a (by rw [e c a]; exact b) fun j hj => by rw [e j (by omega)]; exact c' j hj]
theorem openS_first {m : Nat} {s : St} {r c : Nat} (hr : r < s.t.length) (hl : s.rp r = r) (hc : openC m s r = some c) (hb : ∀ j, j < r → Ct.openR m s j = false) : openS m s = some (r, c) := by
  have h2 : Ct.openR m s r = true := by unfold openR; rw [hc, hl]; simp
  unfold openS
  rw [first_some hr h2 hb]
  simp only
  rw [hc]
  rfl
theorem openS_nil {m : Nat} {s : St} (hbk : ∀ j, j < s.t.length → Ct.openR m s j = false) : openS m s = none := by
  unfold openS
  rw [first_none hbk]
theorem openR_not {m : Nat} {s : St} {r : Nat} (h : openC m s r = none ∨ s.rp r ≠ r) : Ct.openR m s r = false := by
  unfold openR
  rcases h with h | h
  · rw [h]; simp
  · rw [decide_eq_false h]; rfl
end Ct
theorem StFB.rowAt {K : Nat → Prop} {T : TypeId} {ex : List Value} {bl cs : Nat → Nat} {g base b wd lim : Nat} {w : World} {f : FS} (hI : Inv g f.s) (hn : f.s.t.length ≤ 1000000) (hS : StFB K T ex bl cs base b wd lim w f) {r : Nat} (hr : r < f.s.t.length) : ∃ gr cr, w.cell? ⟨b, 2, none⟩ = some (.slice (some ⟨gr, 0, none⟩) f.s.t.length cr) ∧ w.cell? ⟨gr, r, none⟩ = some (.slice (some ⟨bl r, 0, none⟩) (2 * g) (cs r)) ∧ IntsAt w (.slice (some ⟨bl r, 0, none⟩) (2 * g) (cs r)) (f.s.t.row r) := by
  obtain ⟨-, P, vr, vp, vq, vk, hB, hC, -⟩ := hS
  obtain ⟨-, hX, h1, h2⟩ := hC.row r hr
  have hlen := hI.len r hr
  have hfit : Fits (f.s.t.row r) := fun x hx => by
    obtain ⟨c, hc, rfl⟩ := List.mem_iff_getElem.1 hx
    have := hI.bd r hr c (by omega)
    unfold Tb.at at this
    rw [List.getD_eq_getElem?_getD, List.getElem?_eq_getElem hc] at this
    simp at this
    omega
  obtain ⟨hl, ho⟩ := hC.out
  rcases ho with ⟨-, h0⟩ | ⟨gr, cap, cur, rfl, hb, hCr, h3, hm, hs, ht⟩
  · omega
  · refine ⟨gr, cap, hB.cells.2.2.1, ?_, hX.ints hlen (by omega) h2 hfit⟩
    rw [cell_of_row _ _ _ _ _ _ hCr]
    have h2 : (cur.toList.take (f.s.t.length * 1))[r]? = ((List.range f.s.t.length).map fun i => Value.slice (some ⟨bl i, 0, none⟩) (f.s.t.row i).length (cs i))[r]? := by rw [ht]
    rw [List.getElem?_take, if_pos (by omega)] at h2
    simpa [hr, hlen] using h2
structure MapW (K : Nat → Prop) (base : Nat) (w : World) (ex : List Value) (m : Nat) (ws : Nat → List W) (fm : Int → Value) (B0 nB : Nat) : Prop where
  ex0 : ex[0]? = some (.map (some B0))
  kb : K B0
  map : MapL w B0 nB fm
  at_ : ∀ c, c < m → ∀ W, Keeps base K w W → Tab W (fm (letter c)) (ws c)
theorem MapW.keep {K : Nat → Prop} {base : Nat} {w w' : World} {ex : List Value} {m : Nat} {ws : Nat → List W} {fm : Int → Value} {B0 nB : Nat} (h : MapW K base w ex m ws fm B0 nB) (hk : Keeps base K w w') : MapW K base w' ex m ws fm B0 nB := ⟨h.ex0, h.kb, h.map.keep (hk.2 _ h.kb), fun c hc W hW => h.at_ c hc W (hk.trans hW)⟩
set_option maxRecDepth 100000 in
set_option maxHeartbeats 1000000 in
theorem complete146_any (K : Nat → Prop) (T : TypeId) (ex : List Value) (g m base b lim : Nat) (hm : m = 2 * g) (w : World) (f : FS) (ws : Nat → List W) (fm : Int → Value) (B0 nB : Nat) (hT : TyF T) (hF : Fine g f) (hG : FGood g lim f) (hk : f.k = []) (hS : StF K T ex base b m lim w f) (hbw : base ≤ w.heap.size) (hlim : lim ≤ 1000)
    (hM : MapW K base w ex m ws fm B0 nB) (hl : ∀ c, c < m → ∀ j, j < (ws c).length → LOk g ((ws c).getD j [])) (hwl : ∀ c, c < m → ∀ j, ((ws c).getD j []).length ≤ 1000000) :
    Calls Try.prog 146 #[.pointer (some ⟨b, 0, none⟩)] w fun e w' => ((∃ f', compF m lim ws f = some f' ∧ e = .returned (.tuple #[]) ∧ StF K T ex base b m lim w' f' ∧ Fine g f') ∨ (compF m lim ws f = none ∧ e = .panicked fullF)) ∧ Keeps base K w w' := by
  have HREL : Hid (StF K T ex base b m lim w f ∧ Fine g f ∧ FGood g lim f ∧ f.k = []) := Lib.hid ⟨hS, hF, hG, hk⟩
  generalize hfe : compF m lim ws f = F at *
  have HFE := Lib.hid hfe
  have HT := Lib.hid hT
  have HM := Lib.hid hm
  have HBW := Lib.hid hbw
  have HMW := Lib.hid hM
  have HL := Lib.hid hl
  have HWL := Lib.hid hwl
  have HL2 : Hid (∀ c, c < 2 * g → ∀ j, j < (ws c).length → LOk g ((ws c).getD j [])) := Lib.hid (by rw [← hm]; exact hl)
  clear hF hG hS hk hfe hT hm hbw hM hl hwl
  go_enter Try.func146, Try.ntmps146
  go_wp2_with fail
  go_loopw [2] (fun i wr => ∃ (k : Nat) (f1 : FS), i = .int .i64 (k : Int) ∧ k ≤ f1.s.t.length ∧ Hid (StF K T ex base b m lim wr f1 ∧ Fine g f1 ∧ FGood g lim f1 ∧ f1.k = []) ∧ Hid (compF m lim ws f1 = F) ∧ Hid (∀ j, j < k → Ct.openR m f1.s j = false) ∧ Hid (Keeps base K w wr)) (fun i wr => (lim + 1 - rowsIn b wr) * (lim + 2) + (lim + 1 - (intOf i).toNat))
  case atStart => exact ⟨0, f, rfl, Nat.zero_le _, HREL, HFE, Lib.hid fun j hj => absurd hj (by omega), Lib.hid (Keeps.refl _ _ _)⟩
  case round =>
    clear HREL HFE
    obtain ⟨k, f1, rfl, hk, HI, HF1, HK, HB⟩ := hrel
    have hk0 : (0 : Int) ≤ (k : Int) := Int.natCast_nonneg _
    obtain ⟨⟨bl, cs, h1⟩, h2, h3, h4⟩ := HI.out
    have HRW : Hid (rowsIn b wr = f1.s.t.length) := Lib.hid (StF.rowsIn ⟨bl, cs, h1⟩)
    have hn1 := h2.n
    have hnI : (f1.s.t.length : Int) ≤ 1000 := by omega
    have HLM : Hid (f1.s.t.length ≤ lim) := Lib.hid h3.good.n2
    have hstep := compF_step (ws := ws) HL2.out h3
    rw [← HM.out, HF1.out] at hstep
    by_cases hlt : k < f1.s.t.length
    · have hltI : (k : Int) < (f1.s.t.length : Int) := by omega
      obtain ⟨gr, cr, r1, r2, r3⟩ := h1.rowAt h2.rest.rest.inv (by omega) hlt
      have hix := idx186_first wr _ _ (-1) r3
      have hzi := idx_open h2.rest.rest.inv hlt
      rw [← HM.out] at r2 hix hzi
      generalize idxOf1 (f1.s.t.row k) (-1) = zi at *
      have HIX := Lib.hid hix
      have HAL := Lib.hid (alive198_any K T ex bl cs base b m lim k wr f1 h1 hlt)
      have HMEAS : Hid ((lim + 1 - rowsIn b wr) * (lim + 2) + (lim + 1 - (k + 1)) < (lim + 1 - rowsIn b wr) * (lim + 2) + (lim + 1 - k)) := Lib.hid (by have := HLM.out; omega)
      generalize hbk : bl k = bk at *
      generalize cs k = kk at *
      cases hoc : openC m f1.s k with
      | none =>
        have hzi : zi = -1 := by rw [hzi, hoc]
        have HK2 : Hid (∀ j, j < k + 1 → Ct.openR m f1.s j = false) := Lib.hid fun j hj => by
          rcases Nat.lt_or_ge j k with h | h
          · exact HK.out j h
          · obtain rfl : j = k := by omega
            exact openR_not (.inl hoc)
        have HIX' : Hid (Calls Try.prog 186 #[.slice (some ⟨bk, 0, none⟩) m kk, .int .i64 (-1)] wr fun e w' => e = .returned (.int .i64 (-1)) ∧ wr = w') := Lib.hid (by have h := HIX.out; rw [hzi] at h; exact h)
        clear hoc hstep h1 h2 h3 h4 r3 hix hzi HIX HAL hbk
        go_wp2_with (first
          | (go_at_call 186; (with_reducible refine HIX'.out.mono ?_); rintro E w1 ⟨rfl, rfl⟩))
        go_roundw
        case rel => exact ⟨k + 1, f1, by go_num, by omega, HI, HF1, HK2, HB⟩
        case measure => simpa [intOf] using HMEAS.out
      | some c =>
        have hzi : zi = (c : Int) := by rw [hzi, hoc]
        have HIX' : Hid (Calls Try.prog 186 #[.slice (some ⟨bk, 0, none⟩) m kk, .int .i64 (-1)] wr fun e w' => e = .returned (.int .i64 (c : Int)) ∧ wr = w') := Lib.hid (by have h := HIX.out; rw [hzi] at h; exact h)
        have hc0 : (0 : Int) ≤ (c : Int) := Int.natCast_nonneg _
        by_cases hal : f1.s.rp k = k
        · rw [decide_eq_true hal] at HAL
          have hos := openS_first hlt hal hoc HK.out
          rw [hos] at hstep
          simp only at hstep
          obtain ⟨-, -, hcm, hneg⟩ := openS_some hos
          by_cases hfull : lim ≤ f1.s.t.length
          · have HE : Hid (F = none) := Lib.hid (by rw [hstep]; exact if_pos hfull)
            have HD := Lib.hid (define197_full K T ex bl cs m base b lim k c wr f1 h1 (Nat.le_trans HBW.out HB.out.size) (by omega) hfull)
            clear hoc hos hstep h1 h2 h3 h4 r3 hix hzi HIX hal hbk hcm hneg hfull HI
            go_wp2_with (first
              | (go_at_call 186; (with_reducible refine HIX'.out.mono ?_); rintro E w1 ⟨rfl, rfl⟩)
              | (go_at_call 198; (with_reducible refine HAL.out.mono ?_); rintro E w2 ⟨rfl, rfl⟩)
              | (go_at_call 197; (with_reducible refine HD.out.mono ?_); rintro E w3 ⟨rfl, hb3⟩
                 have HB3 := Lib.hid (HB.out.trans hb3)
                 clear hb3))
            exact ⟨rfl, .inr ⟨HE.out, rfl⟩, HB3.out⟩
          · have hE : compF m lim ws (ded m ws (defF m f1 k c)) = F := by rw [hstep]; exact (if_neg hfull).symm
            have hk1 : f1.k.length ≤ 1000000000000 := by rw [h4]; simp
            have HD := Lib.hid (define197_any K T ex bl cs g m base b lim k c HM.out h2.g16 wr f1 HT.out h2.rest.rest h1 (Nat.le_trans HBW.out HB.out.size) (by omega) hlt hcm (by omega) (by omega) hk1)
            have hcg : c < 2 * g := by rw [← HM.out]; exact hcm
            have hgd := (h3.defn hlt hcg hal hneg (by omega)).1
            have hfd : Fine g (defF m f1 k c) := by rw [HM.out]; exact h2.defn hgd.rest (by omega)
            have hdd := def_ded (ws := ws) HL2.out h3 (by rw [← HM.out]; exact hos) (by omega)
            rw [← HM.out] at hdd hgd
            have hde := (ded_F (ws := ws) HL2.out hfd.rest).1
            rw [← HM.out] at hde
            have HN : Hid (Fine g (ded m ws (defF m f1 k c)) ∧ FGood g lim (ded m ws (defF m f1 k c)) ∧ (ded m ws (defF m f1 k c)).k = [] ∧ compF m lim ws (ded m ws (defF m f1 k c)) = F ∧ (ded m ws (defF m f1 k c)).s.t.length = f1.s.t.length + 1) := Lib.hid ⟨hfd.ext hde, hdd.1, hdd.2.2.2, hE, hdd.2.2.1⟩
            have HDD : Hid (∀ W, StF K T ex base b m lim W (defF m f1 k c) → Keeps base K w W → Calls Try.prog 145 #[.pointer (some ⟨b, 0, none⟩)] W fun e w' => e = .returned (.tuple #[]) ∧ StF K T ex base b m lim w' (ded m ws (defF m f1 k c)) ∧ Keeps base K W w') := Lib.hid fun W h hw => by
              obtain ⟨bl', cs', h'⟩ := h
              have hmw := HMW.out.keep hw
              exact (deduce145_any K T ex bl' cs' g m base b lim HM.out W _ ws fm B0 nB HT.out hfd h' (Nat.le_trans HBW.out hw.size) hmw.ex0 hmw.kb hmw.map hmw.at_ HL.out HWL.out).mono fun e w' ⟨a, b, c⟩ => ⟨a, ⟨bl', cs', b⟩, c⟩
            have HLT : Hid (f1.s.t.length < lim) := Lib.hid (by omega)
            clear hoc hos hstep h1 h2 h3 h4 r3 hix hzi HIX hal hbk hcm hneg hfull HI hgd hfd hdd hde hE hcg hk1
            generalize ded m ws (defF m f1 k c) = f9 at *
            generalize defF m f1 k c = f8 at *
            go_wp2_with (first
              | (go_at_call 186; (with_reducible refine HIX'.out.mono ?_); rintro E w1 ⟨rfl, rfl⟩)
              | (go_at_call 198; (with_reducible refine HAL.out.mono ?_); rintro E w2 ⟨rfl, rfl⟩)
              | (go_at_call 197; (with_reducible refine HD.out.mono ?_); rintro E w3 ⟨rfl, hs3, hb3⟩
                 have HS3 := Lib.hid hs3
                 have HB3 := Lib.hid (HB.out.trans hb3)
                 clear hs3 hb3)
              | (go_at_call 145; (with_reducible refine (HDD.out _ HS3.out HB3.out).mono ?_); rintro E w4 ⟨rfl, hs4, hb4⟩
                 have HS4 := Lib.hid hs4
                 have HB4 := Lib.hid (HB3.out.trans hb4)
                 clear hs4 hb4))
            go_roundw
            case rel => exact ⟨0, f9, by go_num, Nat.zero_le _, Lib.hid ⟨HS4.out, HN.out.1, HN.out.2.1, HN.out.2.2.1⟩, Lib.hid HN.out.2.2.2.1, Lib.hid fun j hj => absurd hj (by omega), HB4⟩
            case measure =>
              have e1 := HS4.out.rowsIn
              have e2 := HN.out.2.2.2.2
              have e3 := HRW.out
              have e4 := HLT.out
              simp only [intOf]
              rw [e1, e2, e3]
              obtain ⟨d, hd⟩ : ∃ d, lim + 1 - f1.s.t.length = d + 1 := ⟨lim - f1.s.t.length, by omega⟩
              rw [show lim + 1 - (f1.s.t.length + 1) = d by omega, hd, Nat.add_mul]
              omega
        · rw [decide_eq_false hal] at HAL
          have HK2 : Hid (∀ j, j < k + 1 → Ct.openR m f1.s j = false) := Lib.hid fun j hj => by
            rcases Nat.lt_or_ge j k with h | h
            · exact HK.out j h
            · obtain rfl : j = k := by omega
              exact openR_not (.inr hal)
          clear hoc hstep h1 h2 h3 h4 r3 hix hzi HIX hal hbk
          go_wp2_with (first
            | (go_at_call 186; (with_reducible refine HIX'.out.mono ?_); rintro E w1 ⟨rfl, rfl⟩)
            | (go_at_call 198; (with_reducible refine HAL.out.mono ?_); rintro E w2 ⟨rfl, rfl⟩))
          go_roundw
          case rel => exact ⟨k + 1, f1, by go_num, by omega, HI, HF1, HK2, HB⟩
          case measure => simpa [intOf] using HMEAS.out
    · obtain rfl : k = f1.s.t.length := by omega
      have HE : Hid (F = some f1) := Lib.hid (by rw [openS_nil HK.out] at hstep; exact hstep)
      have HEND : Hid (StF K T ex base b m lim wr f1 ∧ Fine g f1) := Lib.hid ⟨⟨bl, cs, h1⟩, h2⟩
      obtain ⟨A2, c2, hr2⟩ := h1.rows
      clear hstep h1 h2 h3 h4 hlt
      go_wp2_with fail
      go_end0
      exact ⟨.inl ⟨f1, HE.out, rfl, HEND.out.1, HEND.out.2⟩, HB.out⟩
end Go.Proofs
namespace Go.Proofs
open Go.RowKit Go.Shelf Go.Proofs.Ct Go.Maps
def fcells (wd lim : Nat) (s : St) (vr vp vq vk : Value) : Array Value := #[.int .i64 (wd : Int), .int .i64 (lim : Int), vr, vp, vq, vk, .int .i64 s.live, .int .i64 s.most]
def zero151 : Array Value := #[.int .i64 0, .int .i64 0, .slice none 0 0, .slice none 0 0, .slice none 0 0, .slice none 0 0, .int .i64 0, .int .i64 0]
theorem build151z (w : World) : (Instr.build 151 #[]).run Try.prog w = .ok (.agg zero151) w := by kernel_rfl
theorem alloc151 (w : World) : (Instr.alloc 151 true (.tuple #[])).run Try.prog w = .ok (.pointer (some ⟨w.heap.size, 0, none⟩)) (w.alloc (.cells zero151 151)) := by kernel_rfl
theorem info151s : (Try.prog.info? 151).map (·.size) = some 8 := by kernel_rfl
theorem zero151_one : zero151.all (·.oneCell') = true := by simp [zero151, Value.oneCell']
section
variable {o : Oper} {a : Act} {w : World}
theorem r_store151 (x y : Operand) (ho : o.op = .store 151 x y) (g : Nat) (old c' : Array Value) (hx : a.eval x = .pointer (some ⟨g, 0, none⟩)) (hy : a.eval y = .agg c') (hg : w.heap[g]? = some (.cells old 151 (0, 0)))
    (hi : c'.size = 8) (hoo : old.size = 8) (h1 : c'.all (·.oneCell') = true) : (execOp a.eval o).run Try.prog w = .ok .skip (w.setRow g c') := by
  unfold execOp
  simp only [ho, hx, hy, Instr.storeAt, Instr.sureAddr, Sem.run_bind, Sem.run_pure, Result.andThen_ok, run_storeVar_row w g 151 151 old c' hg (by rw [hi]; exact info151s) (by rw [hi, hoo]) h1]
theorem r_build151 (ho : o.op = .build 151 #[]) : (execOp a.eval o).run Try.prog w = .ok (.value (.agg zero151)) w := by
  have hb := build151z w
  unfold execOp
  simp only [ho, List.map_toArray, List.map_nil, Sem.run_bind, hb, Result.andThen_ok]
  rfl
theorem r_alloc151 (ho : o.op = .alloc 151) : (execOp a.eval o).run Try.prog w = .ok (.value (.pointer (some ⟨w.heap.size, 0, none⟩))) (w.alloc (.cells zero151 151)) := by
  have hb := alloc151 w
  unfold execOp
  simp only [ho, Sem.run_bind, hb, Result.andThen_ok]
  rfl
theorem r_load151 (x : Operand) (b : Nat) (v0 v1 v2 v3 v4 v5 v6 v7 : Value) (ho : o.op = .load 151 x) (hx : a.eval x = .pointer (some ⟨b, 0, none⟩)) (hc : w.heap[b]? = some (.cells #[v0, v1, v2, v3, v4, v5, v6, v7] 151 (0, 0))) : (execOp a.eval o).run Try.prog w = .ok (.value (.agg #[v0, v1, v2, v3, v4, v5, v6, v7])) w := by
  have hr : w.rangeAt b 0 [v0, v1, v2, v3, v4, v5, v6, v7] := fun j v hj => by rw [cell_of_row _ _ _ _ _ _ hc, Nat.zero_add]; simpa using hj
  unfold execOp
  simp only [ho, hx, Sem.run_bind, run_loadAt_mid (P := Try.prog) w b 0 151 [v0, v1, v2, v3, v4, v5, v6, v7] _ hr Try.underlying151 rfl (by kernel_rfl), Result.andThen_ok]
  rfl
end
theorem results_151_tmp {fn : Func} {p q : Tmp} (h : fn.results = #[.cell p 151, .tmp q]) (tmps : Array Value) (w : World) (g : Nat) (cs : Array Value) (u : Value)
    (hp : tmps.getD p undef = .pointer (some ⟨g, 0, none⟩)) (hq : tmps.getD q undef = u) (hg : w.heap[g]? = some (.cells cs 151 (0, 0))) (hs : cs.size = 8) :
    (results fn tmps).run Try.prog w = .ok (.tuple #[.agg cs, u]) w := by
  have hp' : tmps[p]?.getD undef = .pointer (some ⟨g, 0, none⟩) := by simpa using hp
  have hq' : tmps[q]?.getD undef = u := by simpa using hq
  simp [results, h, hp', hq', asAddr, run_loadVar_row w g 151 151 cs (0, 0) _ hg Try.underlying151 rfl (by rw [hs]; exact info151s)]
def CosF (base wd lim : Nat) (w : World) (cs : Array Value) (f : FS) : Prop := ∃ (bl css : Nat → Nat) (P : List Int) (vr vp vq vk : Value), cs = fcells wd lim f.s vr vp vq vk ∧ CoreM base w f.s P vr vp vq bl css ∧ OwnC base w vk f.k
theorem CosF.one {base wd lim : Nat} {w : World} {cs : Array Value} {f : FS} (h : CosF base wd lim w cs f) : cs.all (·.oneCell') = true := by
  obtain ⟨bl, css, P, vr, vp, vq, vk, rfl, hc, hk⟩ := h
  obtain ⟨A, c, rfl⟩ := owns_form hc.out
  obtain ⟨A1, c1, rfl⟩ := owns_form hc.par
  obtain ⟨A2, c2, rfl⟩ := owns_form hc.que
  obtain ⟨A3, c3, rfl⟩ := owns_form2 hk
  simp [fcells, Value.oneCell']
theorem StFB.cos {K : Nat → Prop} {T : TypeId} {ex : List Value} {bl cs : Nat → Nat} {base b wd lim : Nat} {w : World} {f : FS} (h : StFB K T ex bl cs base b wd lim w f) : ∃ C, CosF base wd lim w C f ∧ w.heap[b]? = some (.cells (C ++ ex.toArray) T (0, 0)) := by
  obtain ⟨-, P, vr, vp, vq, vk, hB, hC, hK, -⟩ := h
  exact ⟨_, ⟨bl, cs, P, vr, vp, vq, vk, rfl, hC, hK⟩, hB.box⟩
theorem CosF.rebox {base wd lim b : Nat} {w1 w2 : World} {cs : Array Value} {f : FS} {T : TypeId} {ex : List Value} {K : Nat → Prop} (h : CosF base wd lim w1 cs f) (hb : Below w1.heap.size w1 w2) (hbox : w2.heap[b]? = some (.cells (cs ++ ex.toArray) T (0, 0))) (hbb : base ≤ b)
    (hK : ∀ k, K k → w1.heap.size ≤ k ∧ k ≠ b ∧ k < w2.heap.size) : StF K T ex base b wd lim w2 f := by
  obtain ⟨bl, css, P, vr, vp, vq, vk, rfl, hc, hk⟩ := h
  refine ⟨bl, css, hbb, P, vr, vp, vq, vk, ⟨hbox⟩, hc.keep (fun k C e _ hC _ => hb.block k (Array.getElem?_eq_some_iff.1 hC).1), owns_below hk hb, ⟨fun k h => (hK k h).2.2, fun h => (hK b h).2.1 rfl, fun k hr h => ?_, fun k hr h => ?_, fun k hr h => ?_, fun k hr h => ?_, fun i hi h => ?_⟩⟩
  · have := owns_lt hc.out hr; have := (hK k h).1; omega
  · have := owns_lt hc.par hr; have := (hK k h).1; omega
  · have := owns_lt hc.que hr; have := (hK k h).1; omega
  · obtain ⟨-, C, hC⟩ := owns_block2 hk k hr
    have := (Array.getElem?_eq_some_iff.1 hC).1; have := (hK k h).1; omega
  · have := (hc.row i hi).2.1.lt; have := (hK _ h).1; omega
theorem CosF.made {w : World} {wd lim : Nat} (base : Nat) : CosF base wd lim w (fcells wd lim nilS (.slice none 0 0) (.slice none 0 0) (.slice none 0 0) (.slice none 0 0)) ⟨nilS, []⟩ :=
  ⟨fun _ => 0, fun _ => 0, [], .slice none 0 0, .slice none 0 0, .slice none 0 0, .slice none 0 0, rfl, ⟨World.ownsRow_nil _ _ _ _, fun i hi => absurd hi (Nat.not_lt_zero _), fun i j hi => absurd hi (Nat.not_lt_zero _), World.ownsRow_nil _ _ _ _, World.ownsRow_nil _ _ _ _, fun i hi => absurd hi (Nat.not_lt_zero _), fun i hi => absurd hi (Nat.not_lt_zero _), (fun r hr => by cases hr), ⟨rfl, fun x hx => absurd hx (Nat.not_lt_zero _)⟩⟩, World.ownsRow_nil _ _ _ _⟩
set_option maxRecDepth 100000 in
theorem pred194 (g B : Nat) (w : World) (hg : g ≤ 16) (hc : w.cell? ⟨B, 0, none⟩ = some (.int .i64 (g : Int))) :
    PredW 194 #[.pointer (some ⟨B, 0, none⟩)] (fun x => -9223372036854775808 ≤ x ∧ x ≤ 9223372036854775807) (letBad g) w := fun x q hx => by
  have hcq : (w.drewN q).cell? ⟨B, 0, none⟩ = some (.int .i64 (g : Int)) := hc
  show Calls Try.prog 194 #[.int .i64 x, .pointer (some ⟨B, 0, none⟩)] (w.drewN q) _
  have h0 : letBad g x = (decide (x = 0) || decide (x < -(g : Int)) || decide ((g : Int) < x)) := rfl
  have H0 := Lib.hid h0
  clear h0
  generalize hW : w.drewN q = W at *
  have HW := Lib.hid hW
  clear hW
  have hg0 : (0 : Int) ≤ (g : Int) := Int.natCast_nonneg _
  have hg1 : (g : Int) ≤ 16 := by omega
  by_cases h1 : x = 0
  · subst h1
    go_enter Try.func194, Try.ntmps194
    go_wp2_with fail
    go_ret
    exact ⟨ret_bool (by rw [H0.out]; simp), q, HW.out.symm⟩
  · have d1 : (x == 0) = false := by simpa using h1
    by_cases h2 : x < -(g : Int)
    · go_enter Try.func194, Try.ntmps194
      go_wp2_with fail
      go_ret
      exact ⟨ret_bool (by rw [H0.out]; simp [h2]), q, HW.out.symm⟩
    · by_cases h3 : (g : Int) < x
      · go_enter Try.func194, Try.ntmps194
        go_wp2_with fail
        go_ret
        exact ⟨ret_bool (by rw [H0.out]; simp [h3]), q, HW.out.symm⟩
      · go_enter Try.func194, Try.ntmps194
        go_wp2_with fail
        go_ret
        exact ⟨ret_bool (by rw [H0.out]; simp [h1, h2, h3]), q, HW.out.symm⟩
theorem eg194 : ∀ args w, (callFunc 194 args).run Try.prog w = .ok (.enter 194 args) w := enters_of Try.func194 (by kernel_rfl) rfl
end Go.Proofs
