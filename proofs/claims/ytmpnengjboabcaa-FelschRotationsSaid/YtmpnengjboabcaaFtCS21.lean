/- The reference of Felsch's strategy: the list of the letters' words grows; The laws of chapter 19: long, awake; The walk of FelschWords; The looker's box: its further cells; Lookahead, plainly: making room, filling, columns, steps, the whole run. -/
import Derived.Test.YtmpnengjboabcaaFtCS16
import Derived.Test.YtmpnengjboabcaaFtCS10
import Derived.Test.YtmpnengjboabcaaFtCS12
import Derived.Test.YtmpnengjboabcaaFtCS6
import Derived.Test.YtmpnengjboabcaaFtCS17
import Derived.Test.YtmpnengjboabcaaFtCS20
import Derived.Deep.WholeRow
import Derived.Test.YtmpnengjboabcaaFtCS7
import Derived.Test.YtmpnengjboabcaaFtCS5
import Derived.Test.YtmpnengjboabcaaFtCS19
namespace Go.Proofs
open Go.RowKit Go.Shelf Go.Proofs.Ct Go.Maps
def LstQ (b c : Nat) (ws : Nat → List W) (fm : Nat → Value) (v : Value) (W : World) : Prop := ∃ F : Nat → Prop, W.ownsRow (b + 1) 31 1 v c ((List.range c).map fm) ∧ (∀ k, F k → b + 1 ≤ k ∧ k < W.heap.size ∧ v.ownBlock ≠ some k) ∧ ∀ j, j < c → RdT F W (fm j) (ws j)
section
variable {b c : Nat} {ws : Nat → List W} {fm : Nat → Value} {v : Value} {W W' : World}
end
def WqF (b c lo : Nat) (lv pv : Value) (ws : Nat → List W) (fm : Nat → Value) : Nat → Value → World → Prop
  | 8, v, w => ∃ A n k F, v = .slice A n k ∧ (∀ q, F q → lo ≤ q ∧ q < w.heap.size) ∧ RdT F w v (ws c)
  | 9, v, w => ∃ h x F, v = .slice (some ⟨h, 0, none⟩) 1 1 ∧ lo ≤ h ∧ w.heap[h]? = some (.cells #[x] 31 (0, 0)) ∧ x.oneCell' = true ∧ (∀ q, F q → lo ≤ q ∧ q < w.heap.size) ∧ RdT F w x (ws c)
  | 10, v, w => ∃ A k x, v = .slice A (c + 1) k ∧ LstQ b (c + 1) ws (fun j => if j = c then x else fm j) v w
  | i, v, _ => v = ([.pointer (some ⟨b, 0, none⟩), .pointer (some ⟨b, 0, none⟩), .pointer (some ⟨b, 0, none⟩), .pointer (some ⟨b, 4, none⟩), lv, pv, .int .i64 (c : Int), .int .i64 (letter c), undef, undef, undef, .pointer (some ⟨b, 0, none⟩), .pointer (some ⟨b, 4, none⟩), undef] : List Value).getD i undef
def WqG (b lo : Nat) (i : Nat) (w w' : World) : Prop := w.heap.size ≤ w'.heap.size ∧ (i ≠ 10 → ∀ k, b + 1 ≤ k → k < w.heap.size → w'.heap[k]? = w.heap[k]?) ∧ ∀ k, lo ≤ k → k < w.heap.size → w'.heap[k]? = w.heap[k]?
end Go.Proofs
namespace Go.Proofs
open Go.RowKit Go.Shelf Go.Proofs.Ct Go.Maps
def cubeT : List (List Int) := [[1, 1, 1]]
def wakeF : List (List Int) := [[1, 2], [2, 0], [0, 1]]
theorem wake_felsch : felschE 1 cubeT [] 3 = (wakeF, (3, 3), 0) := by decide +kernel
set_option maxRecDepth 100000 in
set_option maxHeartbeats 1000000 in
theorem awake79_any (w : World) : Calls Try.prog 79 #[] w fun e w' => e = .returned (.bool true) ∧ Below w.heap.size w w' := by
  have HE := Lib.hid (fun W vr vs (h1 : Tab W vr cubeT) (h2 : Tab W vs []) => (felsch85_B W vr vs 1 cubeT [] 3 h1 h2 (fun j => by
      rcases j with _ | j
      · simp [cubeT]
      · simp [cubeT]) (fun j => by simp) (by simp) (.inl (by decide))).mono fun e w' (⟨⟨u, h1, h2⟩, h3⟩ : FelschPost 1 cubeT [] 3 W e w') => by
    rw [wake_felsch] at h1 h2
    exact (⟨⟨u, h1, h2.at_⟩, h3⟩ : (∃ u, e = .returned (.tuple #[u, .agg #[.int .i64 3, .int .i64 3, .int .i64 0], .int .i64 0]) ∧ Tab w' u wakeF) ∧ Below W.heap.size W w'))
  have HS := Lib.hid fun (W : World) (a b : Value) (h1 : Tab W a wakeF) (h2 : Tab W b wakeF) => (same18_any W a b wakeF wakeF h1 h2)
  have hq := eql49g 3 3 0
  have HL1 := Lib.hid (lit1 w [1, 1, 1] (by unfold Fits; decide) (n := 3) rfl (by omega) (e := 25))
  have HB1 : Hid (Below w.heap.size w ((w.alloc (.cells (ints [1, 1, 1]).toArray 3)).alloc (.cells #[.slice (some ⟨w.heap.size, 0, none⟩) 3 3] 25))) := Lib.hid (((Below.refl _ _).alloc (Nat.le_refl _) _).alloc (by simp) _)
  have HL3 : Hid (∀ W : World, Tab ((((((W.alloc (.cells #[.int .i64 3, .int .i64 3, .int .i64 0] 49)).alloc (.cells #[.int .i64 1, .int .i64 2] 3)).alloc (.cells #[.int .i64 2, .int .i64 0] 3)).alloc (.cells #[.int .i64 0, .int .i64 1] 3)).alloc (.cells #[.slice (some ⟨W.heap.size + 1, 0, none⟩) 2 2, .slice (some ⟨W.heap.size + 1 + 1, 0, none⟩) 2 2, .slice (some ⟨W.heap.size + 1 + 1 + 1, 0, none⟩) 2 2] 24))) (.slice (some ⟨W.heap.size + 1 + 1 + 1 + 1, 0, none⟩) 3 3) wakeF ∧ Below W.heap.size W ((((((W.alloc (.cells #[.int .i64 3, .int .i64 3, .int .i64 0] 49)).alloc (.cells #[.int .i64 1, .int .i64 2] 3)).alloc (.cells #[.int .i64 2, .int .i64 0] 3)).alloc (.cells #[.int .i64 0, .int .i64 1] 3)).alloc (.cells #[.slice (some ⟨W.heap.size + 1, 0, none⟩) 2 2, .slice (some ⟨W.heap.size + 1 + 1, 0, none⟩) 2 2, .slice (some ⟨W.heap.size + 1 + 1 + 1, 0, none⟩) 2 2] 24)))) := Lib.hid fun W => by
    have h := lit3 (W.alloc (.cells #[.int .i64 3, .int .i64 3, .int .i64 0] 49)) [1, 2] [2, 0] [0, 1] (by unfold Fits; decide) (by unfold Fits; decide) (by unfold Fits; decide) (n := 2) (m := 2) (l := 2) rfl rfl rfl ⟨by omega, by omega, by omega⟩ (e := 24)
    simp only [World.size_alloc] at h
    exact ⟨h, (((((Below.refl _ _).alloc (Nat.le_refl _) _).alloc (by simp) _).alloc (by simp; omega) _).alloc (by simp; omega) _).alloc (by simp; omega) _⟩
  go_enter Try.func79, Try.ntmps79
  go_wp2_with (first
    | (go_at_call 85; (refine (HE.out _ _ _ HL1.out tab_nil).mono ?_); rintro e w2 ⟨⟨u, rfl, ht⟩, hb⟩
       have HT2 := Lib.hid ht
       have HB2 := Lib.hid (HB1.out.trans (hb.mono HB1.out.size))
       obtain ⟨A2, c2, rfl⟩ := Tab.form ht
       have HBa : Hid (Below w2.heap.size w2 (w2.alloc (.cells #[.int .i64 3, .int .i64 3, .int .i64 0] 49))) := Lib.hid ((Below.refl _ _).alloc (Nat.le_refl _) _)
       clear ht hb)
    | (go_at_call 42; (with_reducible refine (HS.out _ _ _ (kept_tab.below HT2.out (HL3.out w2).2) (HL3.out w2).1).mono ?_); rintro e w4 ⟨rfl, q, rfl⟩))
  go_ret
  exact ⟨ret_bool (by simp), below_drewN (HB2.out.trans ((HL3.out w2).2.mono HB2.out.size)) _⟩
end Go.Proofs
namespace Go.Proofs
open Go.RowKit Go.Shelf Go.Proofs.Ct Go.Maps
set_option maxRecDepth 100000 in
set_option maxHeartbeats 1000000 in
theorem plain82_any (w : World) (v : Value) (l : List (List Int)) (h : Tab w v l) (hl : l.length ≤ 1000000) : Calls Try.prog 82 #[v] w fun e w' => (∃ A c, e = .returned (.slice A l.length c) ∧ Tab w' (.slice A l.length c) l) ∧ Below w.heap.size w w' := by
  obtain ⟨vals, ⟨Av, nv, cv, rfl, hn, hc1, hc2, hcc⟩, hvl, hrows⟩ := h
  have hnl : nv = l.length := by rw [← hvl, hn]
  subst hnl
  have HCC := Lib.hid hcc
  have HVL := Lib.hid hvl
  have HROW : Hid (∀ i, i < l.length → ∃ A c, vals[i]? = some (.slice A (l.getD i []).length c) ∧ IntsAt w (.slice A (l.getD i []).length c) (l.getD i [])) := Lib.hid fun i hi => by
    obtain ⟨u, h1, h2⟩ := hrows i hi
    obtain ⟨A, c, rfl, -, -, -⟩ := h2.open_
    exact ⟨A, c, h1, h2⟩
  have hn0 : (0 : Int) ≤ (l.length : Int) := Int.natCast_nonneg _
  have hn1 : (l.length : Int) ≤ 1000000 := by omega
  clear hcc hrows hn hvl
  go_enter Try.func82, Try.ntmps82
  go_wp2_with fail
  go_loopw [3, 4] (fun vo i wr => ∃ (k : Nat) (A : Option Addr) (c : Nat), i = .int .i64 (k : Int) ∧ k ≤ l.length ∧ vo = .slice A k c ∧ Hid (wr.ownsRow w.heap.size 24 1 vo k (vals.take k)) ∧ Hid (Below w.heap.size w wr)) (fun _ i _ => l.length - (intOf i).toNat)
  case atStart => exact ⟨0, none, 0, rfl, Nat.zero_le _, rfl, Lib.hid (World.ownsRow_nil _ _ _ _), Lib.hid (Below.refl _ _)⟩
  case round =>
    obtain ⟨k, A, c, rfl, hk, rfl, HO, HB⟩ := hrel
    have hk0 : (0 : Int) ≤ (k : Int) := Int.natCast_nonneg _
    by_cases hlt : k < l.length
    · have hkI : (k : Int) < (l.length : Int) := by omega
      obtain ⟨b, o, rfl, hcell⟩ := HCC.out (by omega)
      obtain ⟨Au, cu, hvu, -⟩ := HROW.out k hlt
      have hc0 := hcell k _ hvu
      have hck := (HB.out.cell (p := ⟨b, o + k, none⟩) (World.block_lt_of_cell? w _ hc0)).trans hc0
      obtain ⟨A', c', w', hr, ho, hg, -⟩ := run_push (t := 23) (ty := 23) Try.underlying23 info24p rfl (by omega) wr w.heap.size (.slice A k c) k _ HO.out (.slice Au (l.getD k []).length cu) rfl (by omega) HB.out.size
      have htk : vals.take (k + 1) = vals.take k ++ [.slice Au (l.getD k []).length cu] := by rw [List.take_add_one, hvu]; rfl
      rw [← htk] at ho
      have HRUN := Lib.hid hr
      have HO2 := Lib.hid ho
      have HB2 : Hid (Below w.heap.size w w') := Lib.hid (HB.out.grown hg HB.out.size fun r hr => (owns_block HO.out r hr).1)
      generalize (l.getD k []).length = lu at *
      clear hcell hc0 hvu htk hr ho hg
      go_wp2_with ((with_reducible refine wpList_sel 17 ?_); refine wpList_val rfl (r_app (.tmp 11) (.tmp 16) 23 rfl rfl rfl HRUN.out) ?_)
      go_roundw
      case rel => exact ⟨k + 1, A', c', by go_num, by omega, rfl, HO2, HB2⟩
      case measure => simp [intOf]; omega
    · obtain rfl : k = l.length := by omega
      go_wp2_with fail
      go_ret
      refine ⟨⟨A, c, rfl, ⟨vals, ?_, HVL.out, fun i hi => ?_⟩⟩, HB.out⟩
      · have h1 := sl_of_owns HO.out
        rwa [List.take_of_length_le (Nat.le_of_eq HVL.out)] at h1
      · obtain ⟨Au, cu, h1, h2⟩ := HROW.out i hi
        exact ⟨_, h1, h2.below HB.out⟩
theorem wordsE_len {g : Int} {rels : List W} {x : Int} (h : ∀ j, (rels.getD j []).length ≤ 100) (hn : rels.length ≤ 200) : (wordsE g rels x).1.length ≤ 1000000 := by
  unfold wordsE
  split
  · exact Nat.zero_le _
  · split
    · exact Nat.zero_le _
    · have := wordsTo2_len h x rels.length
      show (wordsTo2 rels x rels.length).length ≤ 1000000
      omega
end Go.Proofs
namespace Go.Proofs
open Go.RowKit Go.Shelf Go.Proofs.Ct Go.Maps
theorem set_appR {C : Array Value} {ex : List Value} {k : Nat} (_h : k < ex.length) (v : Value) : (C ++ ex.toArray).setIfInBounds (C.size + k) v = C ++ (ex.set k v).toArray := by
  apply Array.ext'
  simp
theorem StFB.setEx {K : Nat → Prop} {T : TypeId} {ex : List Value} {bl cs : Nat → Nat} {base b wd lim : Nat} {w : World} {f : FS} (hT : TyF T) (hS : StFB K T ex bl cs base b wd lim w f) {k : Nat} (hk : k < ex.length) (v : Value) :
    StFB K T (ex.set k v) bl cs base b wd lim (w.setCell ⟨b, 8 + k, none⟩ v) f ∧ Keeps base K w (w.setCell ⟨b, 8 + k, none⟩ v) := by
  obtain ⟨hb, P, vr, vp, vq, vk, hB, hC, hK, hF⟩ := hS
  refine ⟨⟨hb, P, vr, vp, vq, vk, ⟨?_⟩, hC.keep fun j C e _ hj he => Below.heap_setCell w ⟨b, 8 + k, none⟩ v j fun e' => ?_, hK.other hB.box hT.c _ _, hF.mono (by simp [World.setCell])⟩, (Keeps.refl _ _ _).setCell hb hF.box v⟩
  · rw [box_setF hB.box]
    have h := set_appR (C := #[.int .i64 (wd : Int), .int .i64 (lim : Int), vr, vp, vq, vk, .int .i64 f.s.live, .int .i64 f.s.most]) hk v
    rw [show (8 + k) = (#[.int .i64 (wd : Int), .int .i64 (lim : Int), vr, vp, vq, vk, .int .i64 f.s.live, .int .i64 f.s.most] : Array Value).size + k from rfl, h]
  · have e2 : j = b := e'
    rw [e2, hB.box] at hj
    injection hj with hj
    injection hj with _ hj _
    rcases he with he | he
    · exact hT.a (hj.trans he)
    · exact hT.b (hj.trans he)
theorem SqueezePost.core {K : Nat → Prop} {T : TypeId} {ex : List Value} {bl cs : Nat → Nat} {base b wd lim : Nat} {w w' : World} {f : FS} {e : Ending} (hT : TyF T) (hbw : base ≤ w.heap.size) (hS : StFB K T ex bl cs base b wd lim w f) (h : SqueezePost base f.s bl cs w e w') :
    ∃ A c P vr vp vq vk, e = .returned (.tuple #[.slice (some ⟨w.heap.size, 0, none⟩) f.s.t.length f.s.t.length, .slice A (liv f.s).length c]) ∧ XsAt w' w.heap.size (nmS f.s f.s.t.length) ∧
      CoreN base w' (sqS f.s).t f.s.q P (.slice A (liv f.s).length c) vp vq (fun i => bl ((liv f.s).getD i 0)) (fun i => cs ((liv f.s).getD i 0)) ∧ BoxF T ex b wd lim w' f.s vr vp vq vk ∧ OwnC base w' vk f.k ∧ base ≤ b ∧
      (∀ r, (Value.slice A (liv f.s).length c).ownBlock = some r → w.heap.size ≤ r) ∧ Keeps base K w w' ∧ Free K w b vr vp vq vk bl f.s.t.length := by
  obtain ⟨A, c, rfl, hN, hO, hX, hK, hb⟩ := h
  obtain ⟨hbb, P, vr, vp, vq, vk, hB, hC, hKs, hF⟩ := hS
  have hlv : ∀ i, i < (liv f.s).length → (liv f.s).getD i 0 < f.s.t.length := fun i hi => (liv_at (s := f.s) hi).1
  have hkeep : ∀ {k : Nat} {C : Array Value} {e : TypeId}, w.heap[k]? = some (.cells C e (0, 0)) → (∀ i, i < f.s.t.length → k ≠ bl i) → w'.heap[k]? = w.heap[k]? := fun {k C e} h1 h2 => hK k (Array.getElem?_eq_some_iff.1 h1).1 fun i hi => h2 _ (hlv i hi)
  have hbl3 : ∀ i, i < f.s.t.length → ∃ C, w.heap[bl i]? = some (.cells C 3 (0, 0)) := fun i hi => by
    obtain ⟨C, h1, -⟩ := (hC.row i hi).2.1
    exact ⟨C, h1⟩
  refine ⟨A, c, P, vr, vp, vq, vk, rfl, hN, ⟨?_, fun i hi => ?_, fun i j hi hj e => ?_, owns_keep hC.par fun r hr => ?_, owns_keep hC.que fun r hr => ?_, fun i hi => ?_, fun i hi => ?_, hC.pq⟩, ⟨?_⟩, owns_keep hKs fun r hr => ?_, hbb, fun r hr => (owns_block hO r hr).1, ⟨hb, fun k hk => ?_⟩, hF⟩
  · rw [length_sq]
    have e1 : (List.range (liv f.s).length).map (fun i => Value.slice (some ⟨bl ((liv f.s).getD i 0), 0, none⟩) ((sqS f.s).t.row i).length (cs ((liv f.s).getD i 0))) = (liv f.s).map (rowV f.s bl cs) := by
      refine List.ext_getElem (by simp) fun i h1 h2 => ?_
      have hi : i < (liv f.s).length := by simpa using h1
      have h3 : (liv f.s).getD i 0 = (liv f.s)[i] := by rw [List.getD_eq_getElem?_getD, List.getElem?_eq_getElem hi]; rfl
      rw [List.getElem_map, List.getElem_map, List.getElem_range, row_sq hi, len_sqRow, h3]
      rfl
    rw [e1]
    exact owns_base hO hbw
  · rw [length_sq] at hi
    obtain ⟨a1, a2, a3, a4⟩ := hC.row _ (hlv i hi)
    rw [row_sq hi, len_sqRow]
    exact ⟨a1, hX i hi, a3, a4⟩
  · rw [length_sq] at hi hj
    have h1 := hC.inj _ _ (hlv i hi) (hlv j hj) e
    have h2 := (liv_at (s := f.s) hi).2.2
    have h3 := (liv_at (s := f.s) hj).2.2
    rw [← h2, ← h3, h1]
  · obtain ⟨-, C, h1⟩ := owns_block hC.par r hr
    exact hkeep h1 fun i hi e => hC.sepP i hi (by rw [hr, e])
  · obtain ⟨-, C, h1⟩ := owns_block hC.que r hr
    exact hkeep h1 fun i hi e => hC.sepQ i hi (by rw [hr, e])
  · rw [length_sq] at hi
    exact hC.sepP _ (hlv i hi)
  · rw [length_sq] at hi
    exact hC.sepQ _ (hlv i hi)
  · refine (hkeep hB.box fun i hi e => ?_).trans hB.box
    obtain ⟨C, h1⟩ := hbl3 i hi
    have h2 := hB.box
    rw [e, h1] at h2
    injection h2 with h2
    injection h2 with _ h2 _
    exact hT.a h2.symm
  · obtain ⟨-, C, h1⟩ := owns_block2 hKs r hr
    refine hkeep h1 fun i hi e => ?_
    obtain ⟨C', h2⟩ := hbl3 i hi
    rw [e, h2] at h1
    injection h1 with h1
    injection h1 with _ h1 _
    exact absurd h1 (by decide)
  · exact hK k (hF.lt k hk) fun i hi e => hF.row _ (hlv i hi) (e ▸ hk)
def exL (vr : Value) (r : Nat) (lost : Bool) (removed looks : Nat) : List Value := [vr, .int .i64 (r : Int), .bool lost, .int .i64 (removed : Int), .int .i64 (looks : Int)]
end Go.Proofs
namespace Go.Proofs.Ct
structure LS where
  s : St
  r : Nat
  lost : Bool
  removed : Nat
  looks : Nat
def roomL (m : Nat) (rels : List W) (x : LS) : Option LS :=
  if x.looks = 50 then none else
  if (lkTo m rels x.s.t.length x.s).live = x.s.t.length then none else
  some ⟨sqS (lkTo m rels x.s.t.length x.s), num (lkTo m rels x.s.t.length x.s) x.r, decide ((lkTo m rels x.s.t.length x.s).rp x.r ≠ x.r), x.removed + (x.s.t.length - (liv (lkTo m rels x.s.t.length x.s)).length), x.looks + 1⟩
def fillLN (m lim : Nat) (rels : List W) : Nat → LS → W → Option LS
  | 0, _, _ => none
  | n + 1, x, w => if x.lost = true then some x else
    match (scanS m x.s x.r w).2 with
    | none => some { x with s := (scanS m x.s x.r w).1 }
    | some (u, c) => if x.s.t.length < lim then fillLN m lim rels n { x with s := defS m x.s u c } w else
      match roomL m rels x with
      | none => none
      | some y => fillLN m lim rels n y w
def colLN (m lim : Nat) (rels : List W) : Nat → LS → Nat → Option LS
  | 0, _, _ => none
  | n + 1, x, c => if x.lost = true ∨ m ≤ c then some x else
    if 0 ≤ x.s.t.at x.r c then colLN m lim rels n x (c + 1) else
    if x.s.t.length < lim then colLN m lim rels n { x with s := defS m x.s x.r c } (c + 1) else
      match roomL m rels x with
      | none => none
      | some y => colLN m lim rels n y 0
def lpot (lim : Nat) (x : LS) : Nat := (50 - x.looks) * (lim + 2) + (lim - x.s.t.length) + 1
def fillL (m lim : Nat) (rels : List W) (x : LS) (w : W) : Option LS := fillLN m lim rels (lpot lim x) x w
def cpot (m lim : Nat) (x : LS) (c : Nat) : Nat := lpot lim x * (m + 2) + (m - c) + 1
def colL (m lim : Nat) (rels : List W) (x : LS) (c : Nat) : Option LS := colLN m lim rels (cpot m lim x c) x c
structure LGood (g lim : Nat) (x : LS) : Prop where
  good : Good g lim x.s
  lk : x.looks ≤ 50
  rr : x.r ≤ x.s.t.length
  mi : x.s.live ≤ x.s.most ∧ x.s.most ≤ ((x.s.t.length + x.removed : Nat) : Int)
def LLive (x : LS) : Prop := x.lost = false → x.r < x.s.t.length ∧ x.s.rp x.r = x.r
section
variable {g lim : Nat} {rels sub : List W} {x : LS}
theorem liv_le (s : St) : (liv s).length ≤ s.t.length := livTo_le s s.t.length
theorem room_good (hr : ∀ j, j < rels.length → LOk g (rels.getD j [])) (h : LGood g lim x) (hx : x.r < x.s.t.length) {y : LS} (e : roomL (2 * g) rels x = some y) :
    LGood g lim y ∧ LLive y ∧ y.looks = x.looks + 1 ∧ y.s.t.length < x.s.t.length ∧ y.r ≤ x.r ∧ y.s.t.length + y.removed = x.s.t.length + x.removed ∧ x.looks < 50 := by
  unfold roomL at e
  obtain ⟨a, b, c, d⟩ := lkTo_F hr h.good.rest (Nat.le_refl x.s.t.length)
  generalize lkTo (2 * g) rels x.s.t.length x.s = s1 at *
  split at e
  · cases e
  · rename_i h50
    split at e
    · cases e
    · rename_i hlv
      cases e
      have hG : Good g lim s1 := h.good.of_ext a b c d
      have h1 := liv_live a
      have h2 := liv_le s1
      have h3 := live_le h.good.rest a b c
      have h4 := live_nonneg a
      have h5 := h.lk
      have hm := h.mi
      have hnum := num_le (s := s1) (x := x.r) (y := s1.t.length) (by omega)
      have hnn : num s1 s1.t.length = (liv s1).length := rfl
      have hr1 : num s1 x.r ≤ x.r := livTo_le s1 x.r
      refine ⟨⟨hG.sq, ?_, ?_, ?_⟩, fun hl => ?_, rfl, ?_, hr1, ?_, ?_⟩
      · show x.looks + 1 ≤ 50; omega
      · show num s1 x.r ≤ (sqS s1).t.length
        rw [length_sq]; omega
      · show s1.live ≤ s1.most ∧ s1.most ≤ (((sqS s1).t.length + (x.removed + (x.s.t.length - (liv s1).length)) : Nat) : Int)
        rw [length_sq, d]
        omega
      · have hl : s1.rp x.r = x.r := by
          have hl' : decide (s1.rp x.r ≠ x.r) = false := hl
          simpa using hl'
        have h6 := (num_liv (by omega) hl).1
        show num s1 x.r < (sqS s1).t.length ∧ (sqS s1).rp (num s1 x.r) = num s1 x.r
        rw [length_sq]
        exact ⟨h6, rp_sq h6⟩
      · show (sqS s1).t.length < _
        rw [length_sq]; omega
      · show (sqS s1).t.length + (x.removed + (x.s.t.length - (liv s1).length)) = _
        rw [length_sq]; omega
      · omega
theorem room_pot (hr : ∀ j, j < rels.length → LOk g (rels.getD j [])) (h : LGood g lim x) (hx : x.r < x.s.t.length) {y : LS} (e : roomL (2 * g) rels x = some y) : lpot lim y < lpot lim x := by
  obtain ⟨h1, -, h2, h3, h4, h5, h6⟩ := room_good hr h hx e
  unfold lpot
  rw [h2]
  obtain ⟨d, hd⟩ : ∃ d, 50 - x.looks = d + 1 := ⟨50 - x.looks - 1, by omega⟩
  rw [hd, show 50 - (x.looks + 1) = d by omega, Nat.add_mul]
  omega
theorem LGood.defn (h : LGood g lim x) {u c : Nat} (hu : u < x.s.t.length) (hc : c < 2 * g) (hl : x.s.rp u = u) (h1 : x.s.t.at u c < 0) (hroom : x.s.t.length < lim) :
    LGood g lim { x with s := defS (2 * g) x.s u c } ∧ (LLive x → LLive { x with s := defS (2 * g) x.s u c }) ∧ lpot lim { x with s := defS (2 * g) x.s u c } < lpot lim x := by
  obtain ⟨a, b⟩ := h.good.defn hu hc hl h1 hroom
  have hn := length_def (s := x.s) (2 * g) u c
  have hm := h.mi
  have hlv := live_le_n h.good.rest
  have hrr := h.rr
  refine ⟨⟨a, h.lk, ?_, ?_⟩, fun hlx hl' => ?_, ?_⟩
  · show x.r ≤ (defS (2 * g) x.s u c).t.length
    omega
  · show x.s.live + 1 ≤ max x.s.most (x.s.live + 1) ∧ max x.s.most (x.s.live + 1) ≤ (((defS (2 * g) x.s u c).t.length + x.removed : Nat) : Int)
    omega
  · obtain ⟨h2, h3⟩ := hlx hl'
    refine ⟨?_, ?_⟩
    · show x.r < (defS (2 * g) x.s u c).t.length
      omega
    · show (defS (2 * g) x.s u c).rp x.r = x.r
      rw [rp_def_old h.good.rest.inv _ _ _ h2]
      exact h3
  · unfold lpot
    show (50 - x.looks) * (lim + 2) + (lim - (defS (2 * g) x.s u c).t.length) + 1 < _
    omega
theorem LGood.scan (h : LGood g lim x) {s' : St} (hR : Rest g s') (hE : Ext g x.s s') (hn : s'.t.length = x.s.t.length) (hm : s'.most = x.s.most) : LGood g lim { x with s := s' } := by
  have h1 := h.mi
  have h2 := live_le h.good.rest hR hE hn
  refine ⟨h.good.of_ext hR hE hn hm, h.lk, ?_, ?_⟩
  · show x.r ≤ s'.t.length
    rw [hn]; exact h.rr
  · show s'.live ≤ s'.most ∧ s'.most ≤ ((s'.t.length + x.removed : Nat) : Int)
    rw [hm, hn]
    omega
theorem fillLN_fuel (hr : ∀ j, j < rels.length → LOk g (rels.getD j [])) {w : W} (hw : LOk g w) : ∀ (n k : Nat) {x : LS}, LGood g lim x → LLive x → lpot lim x ≤ n → lpot lim x ≤ k → fillLN (2 * g) lim rels n x w = fillLN (2 * g) lim rels k x w
  | 0, _, x, _, _, hn, _ => by unfold lpot at hn; omega
  | n + 1, 0, x, _, _, _, hk => by unfold lpot at hk; omega
  | n + 1, k + 1, x, h, hl, hn, hk => by
    rw [fillLN, fillLN]
    by_cases hlo : x.lost = true
    · rw [if_pos hlo, if_pos hlo]
    · rw [if_neg hlo, if_neg hlo]
      obtain ⟨h1, h2⟩ := hl (by simpa using hlo)
      cases ho : (scanS (2 * g) x.s x.r w).2 with
      | none => rfl
      | some uc =>
        obtain ⟨u, c⟩ := uc
        simp only
        by_cases hf : x.s.t.length < lim
        · rw [if_pos hf, if_pos hf]
          obtain ⟨-, b⟩ := scan_rest h.good.rest h1 h2 hw
          obtain ⟨-, b2, b3, b4, b5⟩ := b (scanS (2 * g) x.s x.r w).1 u c (by rw [← ho])
          obtain ⟨c1, c2, c3⟩ := h.defn b2 b3 b4 b5 hf
          exact fillLN_fuel hr hw n k c1 (c2 hl) (by omega) (by omega)
        · rw [if_neg hf, if_neg hf]
          cases hy : roomL (2 * g) rels x with
          | none => rfl
          | some y =>
            simp only
            obtain ⟨c1, c2, -⟩ := room_good hr h h1 hy
            have c3 := room_pot hr h h1 hy
            exact fillLN_fuel hr hw n k c1 c2 (by omega) (by omega)
theorem fillL_step (hr : ∀ j, j < rels.length → LOk g (rels.getD j [])) {w : W} (hw : LOk g w) (h : LGood g lim x) (hl : LLive x) : fillL (2 * g) lim rels x w = if x.lost = true then some x else
    match (scanS (2 * g) x.s x.r w).2 with
    | none => some { x with s := (scanS (2 * g) x.s x.r w).1 }
    | some (u, c) => if x.s.t.length < lim then fillL (2 * g) lim rels { x with s := defS (2 * g) x.s u c } w else
      match roomL (2 * g) rels x with
      | none => none
      | some y => fillL (2 * g) lim rels y w := by
  unfold fillL
  obtain ⟨n, hn⟩ : ∃ n, lpot lim x = n + 1 := ⟨lpot lim x - 1, by unfold lpot; omega⟩
  rw [hn, fillLN]
  by_cases hlo : x.lost = true
  · rw [if_pos hlo, if_pos hlo]
  · rw [if_neg hlo, if_neg hlo]
    obtain ⟨h1, h2⟩ := hl (by simpa using hlo)
    cases ho : (scanS (2 * g) x.s x.r w).2 with
    | none => rfl
    | some uc =>
      obtain ⟨u, c⟩ := uc
      simp only
      by_cases hf : x.s.t.length < lim
      · rw [if_pos hf, if_pos hf]
        obtain ⟨-, b⟩ := scan_rest h.good.rest h1 h2 hw
        obtain ⟨-, b2, b3, b4, b5⟩ := b (scanS (2 * g) x.s x.r w).1 u c (by rw [← ho])
        obtain ⟨c1, c2, c3⟩ := h.defn b2 b3 b4 b5 hf
        exact fillLN_fuel hr hw _ _ c1 (c2 hl) (by omega) (Nat.le_refl _)
      · rw [if_neg hf, if_neg hf]
        cases hy : roomL (2 * g) rels x with
        | none => rfl
        | some y =>
          simp only
          obtain ⟨c1, c2, -⟩ := room_good hr h h1 hy
          have c3 := room_pot hr h h1 hy
          exact fillLN_fuel hr hw _ _ c1 c2 (by omega) (Nat.le_refl _)
theorem cpot_lt {m : Nat} {y : LS} {c d : Nat} (h : lpot lim y < lpot lim x) (hd : m - d ≤ m) : cpot m lim y d < cpot m lim x c := by
  unfold cpot
  obtain ⟨e, he⟩ : ∃ e, lpot lim x = lpot lim y + e + 1 := ⟨lpot lim x - lpot lim y - 1, by omega⟩
  rw [he, Nat.add_mul, Nat.add_mul]
  omega
theorem colLN_fuel (hr : ∀ j, j < rels.length → LOk g (rels.getD j [])) : ∀ (n k : Nat) {x : LS} {c : Nat}, LGood g lim x → LLive x → cpot (2 * g) lim x c ≤ n → cpot (2 * g) lim x c ≤ k → colLN (2 * g) lim rels n x c = colLN (2 * g) lim rels k x c
  | 0, _, x, c, _, _, hn, _ => by unfold cpot at hn; omega
  | n + 1, 0, x, c, _, _, _, hk => by unfold cpot at hk; omega
  | n + 1, k + 1, x, c, h, hl, hn, hk => by
    rw [colLN, colLN]
    by_cases hlo : x.lost = true ∨ 2 * g ≤ c
    · rw [if_pos hlo, if_pos hlo]
    · rw [if_neg hlo, if_neg hlo]
      obtain ⟨h1, h2⟩ := hl (by simpa using fun h => hlo (.inl h))
      have hc : c < 2 * g := by
        rcases Nat.lt_or_ge c (2 * g) with h' | h'
        · exact h'
        · exact absurd (.inr h') hlo
      by_cases h0 : 0 ≤ x.s.t.at x.r c
      · rw [if_pos h0, if_pos h0]
        have : cpot (2 * g) lim x (c + 1) < cpot (2 * g) lim x c := by unfold cpot; omega
        exact colLN_fuel hr n k h hl (by omega) (by omega)
      · rw [if_neg h0, if_neg h0]
        by_cases hf : x.s.t.length < lim
        · rw [if_pos hf, if_pos hf]
          obtain ⟨c1, c2, c3⟩ := h.defn h1 hc h2 (by omega) hf
          have := cpot_lt (m := 2 * g) (c := c) (d := c + 1) c3 (by omega)
          exact colLN_fuel hr n k c1 (c2 hl) (by omega) (by omega)
        · rw [if_neg hf, if_neg hf]
          cases hy : roomL (2 * g) rels x with
          | none => rfl
          | some y =>
            simp only
            obtain ⟨c1, c2, -⟩ := room_good hr h h1 hy
            have := cpot_lt (m := 2 * g) (c := c) (d := 0) (room_pot hr h h1 hy) (by omega)
            exact colLN_fuel hr n k c1 c2 (by omega) (by omega)
theorem colL_step (hr : ∀ j, j < rels.length → LOk g (rels.getD j [])) {c : Nat} (h : LGood g lim x) (hl : LLive x) : colL (2 * g) lim rels x c = if x.lost = true ∨ 2 * g ≤ c then some x else
    if 0 ≤ x.s.t.at x.r c then colL (2 * g) lim rels x (c + 1) else
    if x.s.t.length < lim then colL (2 * g) lim rels { x with s := defS (2 * g) x.s x.r c } (c + 1) else
      match roomL (2 * g) rels x with
      | none => none
      | some y => colL (2 * g) lim rels y 0 := by
  unfold colL
  obtain ⟨n, hn⟩ : ∃ n, cpot (2 * g) lim x c = n + 1 := ⟨cpot (2 * g) lim x c - 1, by unfold cpot; omega⟩
  rw [hn, colLN]
  by_cases hlo : x.lost = true ∨ 2 * g ≤ c
  · rw [if_pos hlo, if_pos hlo]
  · rw [if_neg hlo, if_neg hlo]
    obtain ⟨h1, h2⟩ := hl (by simpa using fun h => hlo (.inl h))
    have hc : c < 2 * g := by
      rcases Nat.lt_or_ge c (2 * g) with h' | h'
      · exact h'
      · exact absurd (.inr h') hlo
    by_cases h0 : 0 ≤ x.s.t.at x.r c
    · rw [if_pos h0, if_pos h0]
      have : cpot (2 * g) lim x (c + 1) < cpot (2 * g) lim x c := by unfold cpot; omega
      exact colLN_fuel hr _ _ h hl (by omega) (Nat.le_refl _)
    · rw [if_neg h0, if_neg h0]
      by_cases hf : x.s.t.length < lim
      · rw [if_pos hf, if_pos hf]
        obtain ⟨c1, c2, c3⟩ := h.defn h1 hc h2 (by omega) hf
        have := cpot_lt (m := 2 * g) (c := c) (d := c + 1) c3 (by omega)
        exact colLN_fuel hr _ _ c1 (c2 hl) (by omega) (Nat.le_refl _)
      · rw [if_neg hf, if_neg hf]
        cases hy : roomL (2 * g) rels x with
        | none => rfl
        | some y =>
          simp only
          obtain ⟨c1, c2, -⟩ := room_good hr h h1 hy
          have := cpot_lt (m := 2 * g) (c := c) (d := 0) (room_pot hr h h1 hy) (by omega)
          exact colLN_fuel hr _ _ c1 c2 (by omega) (Nat.le_refl _)
end
end Go.Proofs.Ct
