/- The living alone, numbered anew: a state without its dead cosets, plainly; scans of all cosets; (*cosets).squeeze; What Felsch's strategy answers, plainly. -/
import Derived.Test.YtmpnengjboabcaaFtCS18
import Derived.Test.YtmpnengjboabcaaFtCS6
import Derived.Test.YtmpnengjboabcaaFtCS7
namespace Go.Proofs.Ct
def scnTo (m : Nat) (r : Nat) (ws : List W) (n : Nat) (s : St) : St := foldTo (fun i s => if s.rp r = r then (scanS m s r (ws.getD i [])).1 else s) n s
theorem scansTo_s (m r : Nat) (ws : List W) (n : Nat) (f : FS) : (scansTo m r ws n f).s = scnTo m r ws n f.s := foldTo_map (p := FS.s) (fun i x => by
  by_cases h : x.s.rp r = r
  · rw [if_pos h, if_pos h, scanF_s]
  · rw [if_neg h, if_neg h]) n f
def lkTo (m : Nat) (rels : List W) (n : Nat) (s : St) : St := foldTo (fun r s => scnTo m r rels rels.length s) n s
theorem chkTo_s (m : Nat) (rels : List W) (n : Nat) (f : FS) : (chkTo m rels n f).s = lkTo m rels n f.s := foldTo_map (p := FS.s) (fun r x => scansTo_s m r rels rels.length x) n f
def sqRow (s : St) (x : Nat) : List Int := (s.t.row x).map fun v => if 0 ≤ v then (num s v.toNat : Int) else v
def sqS (s : St) : St := ⟨(liv s).map (sqRow s), List.range (liv s).length, s.q, s.live, s.most⟩
section
variable {g lim : Nat} {rels sub : List W} {s : St}
theorem length_sq : (sqS s).t.length = (liv s).length := by simp [sqS]
theorem row_sq {i : Nat} (h : i < (liv s).length) : (sqS s).t.row i = sqRow s ((liv s).getD i 0) := by
  unfold sqS Tb.row
  simp [List.getD_eq_getElem?_getD, h]
theorem len_sqRow (x : Nat) : (sqRow s x).length = (s.t.row x).length := by simp [sqRow]
theorem at_sq {i c : Nat} (h : i < (liv s).length) (hc : c < (s.t.row ((liv s).getD i 0)).length) : (sqS s).t.at i c = if 0 ≤ s.t.at ((liv s).getD i 0) c then (num s (s.t.at ((liv s).getD i 0) c).toNat : Int) else s.t.at ((liv s).getD i 0) c := by
  unfold Tb.at
  rw [row_sq h]
  unfold sqRow
  generalize s.t.row ((liv s).getD i 0) = row at *
  simp [List.getD_eq_getElem?_getD, hc]
theorem rp_sq {i : Nat} (h : i < (liv s).length) : (sqS s).rp i = i := by
  unfold sqS St.rp
  simp [List.getD_eq_getElem?_getD, h]
theorem liv_at {i : Nat} (h : i < (liv s).length) : (liv s).getD i 0 < s.t.length ∧ s.rp ((liv s).getD i 0) = (liv s).getD i 0 ∧ num s ((liv s).getD i 0) = i := livTo_at s.t.length i h
theorem num_liv {x : Nat} (hx : x < s.t.length) (hl : s.rp x = x) : num s x < (liv s).length ∧ (liv s).getD (num s x) 0 = x := num_lt hx hl
theorem sq_edge (h : Rest g s) {x y c : Nat} (hx : x < s.t.length) (hc : c < 2 * g) (he : Edge s.t x c y) : num s x < (liv s).length ∧ num s y < (liv s).length ∧ Edge (sqS s).t (num s x) c (num s y) := by
  obtain ⟨h1, h2, h3⟩ := h.live hx hc he
  obtain ⟨k1, k2⟩ := num_liv hx h1
  refine ⟨k1, (num_liv h3 h2).1, ?_⟩
  unfold Edge
  rw [at_sq k1 (by rw [k2, h.inv.len x hx]; exact hc), k2, show s.t.at x c = (y : Int) from he, if_pos (Int.natCast_nonneg _), Int.toNat_natCast]
theorem sq_from (h : Rest g s) {i c k : Nat} (hi : i < (liv s).length) (hc : c < 2 * g) (he : Edge (sqS s).t i c k) : k < (liv s).length ∧ Edge s.t ((liv s).getD i 0) c ((liv s).getD k 0) := by
  obtain ⟨h1, h2, h3⟩ := liv_at hi
  unfold Edge at he
  rw [at_sq hi (by rw [h.inv.len _ h1]; exact hc)] at he
  split at he
  · rename_i h0
    obtain ⟨y, hy⟩ := Int.eq_ofNat_of_zero_le h0
    have hE : Edge s.t ((liv s).getD i 0) c y := hy
    obtain ⟨-, h5, h6⟩ := h.live h1 hc hE
    rw [hy, Int.toNat_natCast] at he
    have hk : num s y = k := by omega
    obtain ⟨k1, k2⟩ := num_liv h6 h5
    rw [hk] at k1 k2
    exact ⟨k1, by rw [k2]; exact hE⟩
  · omega
theorem dc_zero {s : St} (h : ∀ x, x < s.t.length → s.rp x = x) : dc s = 0 := by
  unfold dc
  rw [List.countP_eq_zero]
  intro x hx
  have := h x (List.mem_range.1 hx)
  simpa using this
theorem Inv.sq (h : Rest g s) : Inv g (sqS s) := by
  refine ⟨fun r hr => ?_, fun r hr c hc => ?_, by simp [sqS], fun x hx => ?_, fun x hx => ?_, fun r hr c hc h0 => ?_⟩
  · rw [length_sq] at hr
    rw [row_sq hr, len_sqRow, h.inv.len _ (liv_at hr).1]
  · rw [length_sq] at hr ⊢
    obtain ⟨h1, -, -⟩ := liv_at hr
    have hb := h.inv.bd _ h1 c hc
    rw [at_sq hr (by rw [h.inv.len _ h1]; exact hc)]
    split
    · rename_i h0
      obtain ⟨y, hy⟩ := Int.eq_ofNat_of_zero_le h0
      obtain ⟨-, h5, h6⟩ := h.live h1 hc (show Edge s.t _ c y from hy)
      have := (num_liv h6 h5).1
      rw [hy, Int.toNat_natCast]
      omega
    · omega
  · rw [length_sq] at hx
    rw [rp_sq hx]; exact Nat.le_refl _
  · rw [length_sq] at hx
    rw [rp_sq hx, rp_sq hx]
  · rw [length_sq] at hr
    obtain ⟨k, hk⟩ := Int.eq_ofNat_of_zero_le h0
    obtain ⟨h1, h2⟩ := sq_from h hr hc (show Edge (sqS s).t r c k from hk)
    have h3 := h2.back h.inv (liv_at hr).1 hc
    have h4 := (sq_edge h (liv_at h1).1 (flp_lt2 hc) h3).2.2
    rw [(liv_at h1).2.2, (liv_at hr).2.2] at h4
    rw [hk, Int.toNat_natCast]
    exact h4
theorem Rest.sq (h : Rest g s) : Rest g (sqS s) := by
  have hd : dc (sqS s) = 0 := dc_zero fun x hx => rp_sq (by rwa [length_sq] at hx)
  refine ⟨Inv.sq h, fun x hx hne => ?_, ?_⟩
  · rw [length_sq] at hx
    exact absurd (rp_sq hx) hne
  · rw [hd, length_sq, liv_live h]
    show s.live + _ = s.live
    omega
theorem num_zero : num s 0 = 0 := rfl
theorem Good.sq (h : Good g lim s) : Good g lim (sqS s) := by
  have h0 := rp_zero h.rest h.n1
  have h00 := num_liv h.n1 h0
  rw [num_zero] at h00
  have hle := livTo_le s s.t.length
  have hle : (liv s).length ≤ s.t.length := hle
  refine ⟨h.rest.sq, by rw [length_sq]; omega, by rw [length_sq]; have := h.n2; omega, fun i hi => ?_, h.m0, h.m1⟩
  rw [length_sq] at hi
  rw [rp_sq hi]
  obtain ⟨h1, h2, h3⟩ := liv_at hi
  have hR := h.conn _ h1
  rw [h2] at hR
  have key : ∀ y, Reach g s.t 0 y → y < s.t.length ∧ Reach g (sqS s).t 0 (num s y) := fun y hy => by
    induction hy with
    | refl => exact ⟨h.n1, .refl _⟩
    | @step y z c _ hc he ih =>
      exact ⟨he.lt h.rest.inv ih.1 hc, .step ih.2 hc (sq_edge h.rest ih.1 hc he).2.2⟩
  have := (key _ hR).2
  rwa [h3] at this
theorem num_le {x y : Nat} (h : x ≤ y) : num s x ≤ num s y := (livTo_pre s h).length_le
theorem liv_lt {i x : Nat} (hi : i < (liv s).length) (h : i < num s x) : (liv s).getD i 0 < x := by
  rcases Nat.lt_or_ge ((liv s).getD i 0) x with h1 | h1
  · exact h1
  · have := num_le (s := s) h1
    rw [(liv_at hi).2.2] at this
    omega
theorem Comp.sq (h : Rest g s) {k : Nat} (hc : Comp g s k) : Comp g (sqS s) (num s k) := fun i hi hin c hcc => by
  rw [length_sq] at hin
  obtain ⟨h1, h2, h3⟩ := liv_at hin
  have h4 := hc _ (liv_lt hin hi) h1 c hcc
  rw [h2] at h4
  rw [rp_sq hin, at_sq hin (by rw [h.inv.len _ h1]; exact hcc), if_pos h4]
  exact Int.natCast_nonneg _
theorem sq_way (h : Rest g s) : ∀ {w : W} {x y : Nat}, LOk g w → x < s.t.length → Way s.t x w y → Way (sqS s).t (num s x) w (num s y) := by
  intro w
  induction w with
  | nil => intro x y _ _ e; have e : x = y := e; rw [e]; exact rfl
  | cons l w ih =>
    rintro x y hw hx ⟨z, h1, h2⟩
    have hz := h1.lt h.inv hx (col_ltL hw.cons.1)
    exact ⟨_, (sq_edge h hx (col_ltL hw.cons.1) h1).2.2, ih hw.cons.2 hz h2⟩
theorem clo_sq (h : Rest g s) {i : Nat} (hi : i < (liv s).length) {w : W} (hw : LOk g w) (hc : Clo s ((liv s).getD i 0) w) : Clo (sqS s) i w := by
  obtain ⟨h1, h2, h3⟩ := liv_at hi
  unfold Clo at hc ⊢
  rw [h2] at hc
  have := sq_way h hw h1 hc
  rw [h3] at this
  rw [rp_sq hi]
  exact this
theorem RC.sq (h : Rest g s) (hr : ∀ j, j < rels.length → LOk g (rels.getD j [])) {k : Nat} (hc : RC rels s k) : RC rels (sqS s) (num s k) := fun i hi hin j hj => by
  rw [length_sq] at hin
  exact clo_sq h hin (hr j hj) (hc _ (liv_lt hin hi) (liv_at hin).1 j hj)
theorem clo_sq0 (h : Good g lim s) {w : W} (hw : LOk g w) (hc : Clo s 0 w) : Clo (sqS s) 0 w := by
  have h00 := num_liv h.n1 (rp_zero h.rest h.n1)
  rw [num_zero] at h00
  exact clo_sq h.rest h00.1 hw (by rw [h00.2]; exact hc)
theorem Mp.sq {α : Type} {D : α → Prop} {act : α → Nat → α} {f : Nat → α} (h : Rest g s) (hm : Mp g D act s f) : Mp g D act (sqS s) (fun i => f ((liv s).getD i 0)) := by
  refine ⟨fun x hx => ?_, fun x hx => ?_, fun x c y hx hc he => ?_⟩
  · rw [length_sq] at hx
    exact hm.dom _ (liv_at hx).1
  · rw [length_sq] at hx
    rw [rp_sq hx]
  · rw [length_sq] at hx
    obtain ⟨h1, h2⟩ := sq_from h hx hc he
    exact hm.edge _ _ _ (liv_at hx).1 hc h2
theorem liv_zero (h : Good g lim s) : (liv s).getD 0 0 = 0 := by
  have h00 := num_liv h.n1 (rp_zero h.rest h.n1)
  rw [num_zero] at h00
  exact h00.2
theorem lkTo_F (hr : ∀ j, j < rels.length → LOk g (rels.getD j [])) (h : Rest g s) {n : Nat} (hn : n ≤ s.t.length) : Rest g (lkTo (2 * g) rels n s) ∧ Ext g s (lkTo (2 * g) rels n s) ∧ (lkTo (2 * g) rels n s).t.length = s.t.length ∧ (lkTo (2 * g) rels n s).most = s.most := by
  have h1 := chkTo_F (f := ⟨s, []⟩) hr ⟨h, fun p hp => by cases hp⟩ n hn
  have e := chkTo_s (2 * g) rels n ⟨s, []⟩
  rw [← e]
  exact ⟨h1.rest.rest, h1.ext, h1.n, h1.most⟩
theorem lkTo_mp {α : Type} {D : α → Prop} {act : α → Nat → α} {f : Nat → α} (hM : Mdl g rels D act) (hr : ∀ j, j < rels.length → LOk g (rels.getD j [])) (h : Rest g s) (hm : Mp g D act s f) {n : Nat} (hn : n ≤ s.t.length) : Mp g D act (lkTo (2 * g) rels n s) f := by
  rw [← chkTo_s (2 * g) rels n ⟨s, []⟩]
  exact chkTo_mp (f := ⟨s, []⟩) hM hr ⟨h, fun p hp => by cases hp⟩ hm n hn
end
end Go.Proofs.Ct
namespace Go.Proofs.Ct
def nmS (s : St) (k : Nat) : List Int := (List.range s.t.length).map fun i => if i < k then (num s i : Int) else 0
theorem length_nmS (s : St) (k : Nat) : (nmS s k).length = s.t.length := by simp [nmS]
theorem nmS_getD (s : St) (k : Nat) {i : Nat} (h : i < s.t.length) : (nmS s k).getD i 0 = if i < k then (num s i : Int) else 0 := by
  unfold nmS
  simp [List.getD_eq_getElem?_getD, h]
theorem nmS_zero (s : St) : nmS s 0 = List.replicate s.t.length 0 := getD_ext (d := 0) (by simp [length_nmS]) fun i hi => by
  rw [length_nmS] at hi
  rw [nmS_getD s 0 hi, if_neg (by omega)]
  simp [List.getD_eq_getElem?_getD, hi]
theorem nmS_succ {s : St} {k : Nat} (h : k < s.t.length) : nmS s (k + 1) = (nmS s k).set k (num s k) := getD_ext (d := 0) (by simp [length_nmS]) fun i hi => by
  rw [length_nmS] at hi
  rw [nmS_getD s _ hi, getD_set, length_nmS]
  by_cases e : k = i
  · subst e; rw [if_pos (by omega), if_pos ⟨rfl, h⟩]
  · rw [if_neg (fun h' : k = i ∧ k < s.t.length => e h'.1), nmS_getD s _ hi]
    by_cases h2 : i < k
    · rw [if_pos h2, if_pos (by omega)]
    · rw [if_neg h2, if_neg (by omega)]
def sqF (s : St) (v : Int) : Int := if 0 ≤ v then (num s v.toNat : Int) else v
theorem mix_same {f : Int → Int} {x : List Int} {c : Nat} (_hc : c < x.length) (h : f (x.getD c 0) = x.getD c 0) : mixTo f x (c + 1) = mixTo f x c := getD_ext (d := 0) (by simp [length_mix]) fun i hi => by
  rw [length_mix] at hi
  rw [mix_getD f x _ hi, mix_getD f x _ hi]
  by_cases e : i = c
  · subst e; rw [if_pos (Nat.lt_succ_self _), if_neg (Nat.lt_irrefl _), h]
  · by_cases h2 : i < c
    · rw [if_pos h2, if_pos (by omega)]
    · rw [if_neg h2, if_neg (by omega)]
end Go.Proofs.Ct
namespace Go.Proofs
open Go.RowKit Go.Shelf Go.Proofs.Ct Go.Maps
theorem own_cell24 {base n : Nat} {W : World} {v : Value} {xs : List Value} (h : W.ownsRow base 24 1 v n xs) (hn : 0 < n) : ∃ g c, v = .slice (some ⟨g, 0, none⟩) n c ∧ base ≤ g ∧ g < W.heap.size ∧ n ≤ c ∧ (∃ C, W.heap[g]? = some (.cells C 24 (0, 0))) ∧ ∀ k u, xs[k]? = some u → W.cell? ⟨g, k, none⟩ = some u := by
  obtain ⟨hl, h⟩ := h
  rcases h with ⟨-, h0⟩ | ⟨g, cap, cur, rfl, hb, hc, h1, hm, hs, ht⟩
  · omega
  · refine ⟨g, cap, rfl, hb, (Array.getElem?_eq_some_iff.1 hc).1, h1, ⟨_, hc⟩, fun k u hu => ?_⟩
    rw [cell_of_row _ _ _ _ _ _ hc]
    have h3 : (cur.toList.take (n * 1))[k]? = some u := by rw [ht]; exact hu
    rw [List.getElem?_take] at h3
    split at h3
    · simpa using h3
    · cases h3
def rowV (s : St) (bl cs : Nat → Nat) (x : Nat) : Value := .slice (some ⟨bl x, 0, none⟩) (s.t.row x).length (cs x)
structure SqM (base : Nat) (s : St) (bl : Nat → Nat) (W1 wr : World) (R : Nat → List Int) : Prop where
  below : Below base W1 wr
  keep : ∀ k, k < W1.heap.size → (∀ i, i < (liv s).length → k ≠ bl ((liv s).getD i 0)) → wr.heap[k]? = W1.heap[k]?
  row : ∀ i, i < (liv s).length → XsAt wr (bl ((liv s).getD i 0)) (R i)
theorem SqM.congr {base : Nat} {s : St} {bl : Nat → Nat} {W1 wr : World} {R R' : Nat → List Int} (h : SqM base s bl W1 wr R) (he : ∀ i, i < (liv s).length → R' i = R i) : SqM base s bl W1 wr R' := ⟨h.below, h.keep, fun i hi => by rw [he i hi]; exact h.row i hi⟩
theorem SqM.set {base : Nat} {s : St} {bl : Nat → Nat} {W1 wr : World} {R : Nat → List Int} (h : SqM base s bl W1 wr R) (hb : ∀ i, i < (liv s).length → base ≤ bl ((liv s).getD i 0)) (hinj : ∀ i j, i < (liv s).length → j < (liv s).length → bl ((liv s).getD i 0) = bl ((liv s).getD j 0) → i = j) {j c : Nat} (hj : j < (liv s).length) (hc : c < (R j).length) (z : Int) :
    SqM base s bl W1 (wr.setCell ⟨bl ((liv s).getD j 0), c, none⟩ (.int .i64 z)) (fun i => if i = j then (R j).set c z else R i) := by
  refine ⟨h.below.setCell (p := ⟨bl ((liv s).getD j 0), c, none⟩) (hb j hj) _, fun k hk hn => ?_, fun i hi => ?_⟩
  · exact (Below.heap_setCell wr ⟨bl ((liv s).getD j 0), c, none⟩ (.int .i64 z) k (hn j hj)).trans (h.keep k hk hn)
  · by_cases e : i = j
    · subst e
      simp only [if_true]
      exact (h.row i hi).set hc z
    · simp only [if_neg e]
      exact (h.row i hi).keep (Below.heap_setCell wr ⟨bl ((liv s).getD j 0), c, none⟩ (.int .i64 z) _ (fun e' => e (hinj i j hi hj e')))
theorem xs_madeS (w : World) (s : St) : XsAt (w.alloc (.cells (Array.replicate s.t.length (.int .i64 0)) 3)) w.heap.size (nmS s 0) := by
  refine ⟨_, heap_alloc_new w _, by simp [length_nmS], fun k hk => ?_⟩
  rw [length_nmS] at hk
  rw [nmS_zero]
  simp [List.getD_eq_getElem?_getD, hk]
def SqueezePost (base : Nat) (s : St) (bl cs : Nat → Nat) (w : World) (e : Ending) (w' : World) : Prop :=
  ∃ A c, e = .returned (.tuple #[.slice (some ⟨w.heap.size, 0, none⟩) s.t.length s.t.length, .slice A (liv s).length c]) ∧ XsAt w' w.heap.size (nmS s s.t.length) ∧ w'.ownsRow w.heap.size 24 1 (.slice A (liv s).length c) (liv s).length ((liv s).map (rowV s bl cs)) ∧
    (∀ i, i < (liv s).length → XsAt w' (bl ((liv s).getD i 0)) (sqRow s ((liv s).getD i 0))) ∧ (∀ k, k < w.heap.size → (∀ i, i < (liv s).length → k ≠ bl ((liv s).getD i 0)) → w'.heap[k]? = w.heap[k]?) ∧ Below base w w'
set_option maxRecDepth 100000 in
set_option maxHeartbeats 1000000 in
theorem squeeze148_any (K : Nat → Prop) (T : TypeId) (ex : List Value) (bl cs : Nat → Nat) (g m base b lim : Nat) (_hm : m = 2 * g) (hg1 : 1 ≤ g) (hg : g ≤ 16) (w : World) (f : FS) (hR : Ct.Rest g f.s) (hS : StFB K T ex bl cs base b m lim w f) (hbw : base ≤ w.heap.size) (hn : f.s.t.length ≤ 100000) (hn1 : 1 ≤ f.s.t.length) :
    Calls Try.prog 148 #[.pointer (some ⟨b, 0, none⟩)] w (SqueezePost base f.s bl cs w) := by
  obtain ⟨s, ps⟩ := f
  simp only at *
  have HS := Lib.hid hS
  obtain ⟨hb, P, vr, vp, vq, vk, hB, hC, hK, hF⟩ := hS
  simp only at *
  obtain ⟨gr, cr, rfl, hgb, hgl, hgc, -, hgcell⟩ := own_cell24 hC.out hn1
  have hc2 := hB.cells.2.2.1
  have HC2 : Hid (∀ W, Below w.heap.size w W → W.cell? ⟨b, 2, none⟩ = some (.slice (some ⟨gr, 0, none⟩) s.t.length cr)) := Lib.hid fun W h => (h.cell (p := ⟨b, 2, none⟩) hB.lt).trans hc2
  have HRC : Hid (∀ W x, Below w.heap.size w W → x < s.t.length → W.cell? ⟨gr, x, none⟩ = some (rowV s bl cs x)) := Lib.hid fun W x h hx => (h.cell (p := ⟨gr, x, none⟩) hgl).trans (hgcell x _ (by simp [hx, rowV]))
  have HROW : Hid (∀ i, i < s.t.length → base ≤ bl i ∧ XsAt w (bl i) (s.t.row i) ∧ (s.t.row i).length ≤ cs i ∧ cs i ≤ 9223372036854775807) := Lib.hid hC.row
  have HINJ := Lib.hid hC.inj
  have HR := Lib.hid hR
  have hn0 : (s.t.length : Int) ≤ 1000000 := by omega
  have hn2 : (0 : Int) ≤ (s.t.length : Int) := Int.natCast_nonneg _
  have HR1 : Hid ((Instr.makeSlice 24 (.int .i64 (s.t.length : Int)) (.int .i64 (s.t.length : Int))).run Try.prog w = .ok (.slice (some ⟨w.heap.size, 0, none⟩) s.t.length s.t.length) (w.alloc (.cells (Array.replicate s.t.length (.int .i64 0)) 3))) := Lib.hid (make24r w _ (by omega))
  have HX1 := Lib.hid (xs_madeS w s)
  have HB1 : Hid (Below w.heap.size w (w.alloc (.cells (Array.replicate s.t.length (.int .i64 0)) 3))) := Lib.hid ((Below.refl _ _).alloc (Nat.le_refl _) _)
  generalize w.alloc (.cells (Array.replicate s.t.length (.int .i64 0)) 3) = W1 at *
  have hrows1 := HC2.out W1 HB1.out
  have hrows0 := HC2.out w (Below.refl _ _)
  have HO0 : Hid (W1.ownsRow w.heap.size 24 1 (.slice none (livTo s 0).length 0) (livTo s 0).length ((livTo s 0).map (rowV s bl cs))) := Lib.hid (World.ownsRow_nil _ _ _ _)
  clear hB hC hK hF hgcell hc2 hR hb hgb hgl
  go_enter Try.func148, Try.ntmps148
  go_wp2_with ((with_reducible refine wpList_sel 16 ?_); refine wpList_val rfl (r_make 24 (.tmp 15) (.tmp 15) rfl rfl rfl HR1.out) ?_)
  go_loopw [5, 22] (fun v i wr => ∃ (k : Nat) (A : Option Addr) (c : Nat), i = .int .i64 (k : Int) ∧ k ≤ s.t.length ∧ v = .slice A (livTo s k).length c ∧ Hid (XsAt wr w.heap.size (nmS s k)) ∧ Hid (wr.ownsRow w.heap.size 24 1 v (livTo s k).length ((livTo s k).map (rowV s bl cs))) ∧ Hid (Below w.heap.size w wr)) (fun _ i _ => s.t.length - (intOf i).toNat)
  case atStart => exact ⟨0, none, 0, rfl, Nat.zero_le _, rfl, HX1, HO0, HB1⟩
  case round =>
    clear HX1 HB1 HO0 hrows1 hrows0
    obtain ⟨k, A, c, rfl, hk, rfl, HX, HO, HB⟩ := hrel
    have hk0 : (0 : Int) ≤ (k : Int) := Int.natCast_nonneg _
    have hlk := livTo_le s k
    have hlk0 : (0 : Int) ≤ ((livTo s k).length : Int) := Int.natCast_nonneg _
    have hlk1 : ((livTo s k).length : Int) ≤ 1000000 := by omega
    by_cases hlt : k < s.t.length
    · have hltI : (k : Int) < (s.t.length : Int) := by omega
      have hcx := HX.out.cell (k := k) (by rw [length_nmS]; exact hlt)
      have hfx := HX.out.frozen k
      have HX2 : Hid (XsAt (wr.setCell ⟨w.heap.size, k, none⟩ (.int .i64 ((livTo s k).length : Int))) w.heap.size (nmS s (k + 1))) := Lib.hid (by
        rw [nmS_succ hlt]
        exact HX.out.set (k := k) (by rw [length_nmS]; exact hlt) (num s k))
      have HB2 : Hid (Below w.heap.size w (wr.setCell ⟨w.heap.size, k, none⟩ (.int .i64 ((livTo s k).length : Int)))) := Lib.hid (HB.out.setCell (p := ⟨w.heap.size, k, none⟩) (Nat.le_refl _) _)
      have HO2 : Hid ((wr.setCell ⟨w.heap.size, k, none⟩ (.int .i64 ((livTo s k).length : Int))).ownsRow w.heap.size 24 1 (.slice A (livTo s k).length c) (livTo s k).length ((livTo s k).map (rowV s bl cs))) := Lib.hid (owns_keep HO.out fun r hr => Below.heap_setCell wr ⟨w.heap.size, k, none⟩ _ r fun e => by
        obtain ⟨-, C, hC⟩ := owns_block HO.out r hr
        have e' : r = w.heap.size := e
        obtain ⟨C2, hC2, -⟩ := HX.out
        rw [e', hC2] at hC
        cases hC)
      have HAL : Hid (∀ W, Below w.heap.size w W → Calls Try.prog 198 #[.pointer (some ⟨b, 0, none⟩), .int .i64 (k : Int)] W fun e w' => e = .returned (.bool (decide (s.rp k = k))) ∧ w' = W) := Lib.hid fun W h => alive198_any K T ex bl cs base b m lim k W ⟨s, ps⟩ (HS.out.below h) hlt
      have hr0 := HC2.out _ HB2.out
      have hr1 := HRC.out _ k HB2.out hlt
      clear HX HO HB
      generalize hWk : wr.setCell ⟨w.heap.size, k, none⟩ (.int .i64 ((livTo s k).length : Int)) = Wk at *
      cases hal : decide (s.rp k = k) with
      | true =>
        have HLS : Hid (livTo s (k + 1) = livTo s k ++ [k]) := Lib.hid (by rw [livTo_succ, if_pos (of_decide_eq_true hal)])
        obtain ⟨A', c', w', hr, ho, hg', hw⟩ := run_push (t := 22) (ty := 22) Try.underlying22 info24p rfl (by omega) Wk w.heap.size (.slice A (livTo s k).length c) (livTo s k).length _ HO2.out (rowV s bl cs k) rfl (by omega) HB2.out.size
        have HRUN := Lib.hid hr
        have hll : (livTo s (k + 1)).length = (livTo s k).length + 1 := by rw [HLS.out, List.length_append]; rfl
        have HO3 : Hid (w'.ownsRow w.heap.size 24 1 (.slice A' (livTo s (k + 1)).length c') (livTo s (k + 1)).length ((livTo s (k + 1)).map (rowV s bl cs))) := Lib.hid (by rw [hll, HLS.out, List.map_append]; exact ho)
        have HX3 : Hid (XsAt w' w.heap.size (nmS s (k + 1))) := Lib.hid (HX2.out.grown hg' fun e => by
          obtain ⟨-, C, hC⟩ := owns_block HO2.out _ e
          obtain ⟨C2, hC2, -⟩ := HX2.out
          rw [hC2] at hC
          cases hC)
        have HB3 : Hid (Below w.heap.size w w') := Lib.hid (HB2.out.grown hg' HB2.out.size fun r hr => (owns_block HO2.out r hr).1)
        have HLL := Lib.hid hll
        clear hr ho hg' hw hll
        unfold rowV at HRUN hr1
        go_wp2_with (first
          | (go_at_call 198; (with_reducible refine (HAL.out _ HB2.out).mono ?_); rintro E w2 ⟨rfl, rfl⟩; rw [hal]; clear hWk)
          | ((with_reducible refine wpList_sel 42 ?_); refine wpList_val rfl (r_app (.tmp 33) (.tmp 41) 22 rfl rfl rfl HRUN.out) ?_))
        go_roundw
        case rel => exact ⟨k + 1, A', c', by go_num, by omega, by rw [HLL.out], HX3, Lib.hid (by rw [← HLL.out]; exact HO3.out), HB3⟩
        case measure => simp [intOf]; omega
      | false =>
        have HLS : Hid (livTo s (k + 1) = livTo s k) := Lib.hid (by rw [livTo_succ, if_neg (of_decide_eq_false hal)])
        go_wp2_with (first
          | (go_at_call 198; (with_reducible refine (HAL.out _ HB2.out).mono ?_); rintro E w2 ⟨rfl, rfl⟩; rw [hal]; clear hWk))
        go_roundw
        case rel => exact ⟨k + 1, A, c, by go_num, by omega, by rw [HLS.out], HX2, Lib.hid (by rw [HLS.out]; exact HO2.out), HB2⟩
        case measure => simp [intOf]; omega
    · obtain rfl : k = s.t.length := by omega
      rename World => W2
      have HL : Hid (livTo s s.t.length = liv s) := Lib.hid rfl
      rw [HL.out] at HO hlk hlk0 hlk1
      have HLA : Hid (∀ i, i < (liv s).length → (liv s).getD i 0 < s.t.length ∧ s.rp ((liv s).getD i 0) = (liv s).getD i 0 ∧ num s ((liv s).getD i 0) = i) := Lib.hid fun i hi => liv_at hi
      have HJ : Hid (∀ i j, i < (liv s).length → j < (liv s).length → bl ((liv s).getD i 0) = bl ((liv s).getD j 0) → i = j) := Lib.hid fun i j hi hj h => by
        have h1 := HLA.out i hi
        have h2 := HLA.out j hj
        have h3 := HINJ.out _ _ h1.1 h2.1 h
        rw [← h1.2.2, ← h2.2.2, h3]
      have HBB : Hid (∀ i, i < (liv s).length → base ≤ bl ((liv s).getD i 0) ∧ bl ((liv s).getD i 0) < w.heap.size) := Lib.hid fun i hi => by
        have h1 := HROW.out _ (HLA.out i hi).1
        exact ⟨h1.1, h1.2.1.lt⟩
      have HSQ : Hid (SqM base s bl W2 W2 (fun i => if i < 0 then sqRow s ((liv s).getD i 0) else s.t.row ((liv s).getD i 0))) := Lib.hid ⟨Below.refl _ _, fun _ _ _ => rfl, fun i hi => by
        rw [if_neg (Nat.not_lt_zero _)]
        exact (HROW.out _ (HLA.out i hi).1).2.1.below HB.out⟩
      have hlv1 : 1 ≤ (liv s).length := by
        have := (num_liv (s := s) (x := 0) (by omega) (by have := HR.out.inv.rle 0 (by omega); omega)).1
        omega
      obtain ⟨gA, cA, eA, hgA, -, -, -, hcA⟩ := own_cell24 HO.out (by omega)
      injection eA with e1 e2 e3
      subst e1; subst e3
      have HKW : Hid (∀ W R, SqM base s bl W2 W R → (∀ j, j < (liv s).length → W.cell? ⟨gA, j, none⟩ = some (rowV s bl cs ((liv s).getD j 0))) ∧ XsAt W w.heap.size (nmS s s.t.length)) := Lib.hid fun W R h => by
        have hz : w.heap.size < W2.heap.size := HX.out.lt
        refine ⟨fun j hj => ?_, HX.out.keep (h.keep _ hz fun i hi e => by have := (HBB.out i hi).2; omega)⟩
        have h1 := hcA j (rowV s bl cs ((liv s).getD j 0)) (by simp [List.getD_eq_getElem?_getD, hj])
        have hgl := World.block_lt_of_cell? W2 _ h1
        have h2 := h.keep gA hgl fun i hi e => by have := (HBB.out i hi).2; omega
        unfold World.cell? at h1 ⊢
        simp only [h2]
        exact h1
      have HXN := HX
      have HON := HO
      have HBN := HB
      clear hlt hk HX HO HB e2 hcA
      go_wp2_with fail
      go_loopw [46] (fun i wr => ∃ j : Nat, i = .int .i64 (j : Int) ∧ j ≤ (liv s).length ∧ Hid (SqM base s bl W2 wr (fun i => if i < j then sqRow s ((liv s).getD i 0) else s.t.row ((liv s).getD i 0)))) (fun i _ => (liv s).length - (intOf i).toNat)
      case atStart => exact ⟨0, rfl, Nat.zero_le _, HSQ⟩
      case round =>
        clear HSQ
        obtain ⟨j, rfl, hj, HSQ⟩ := hrel
        have hj0 : (0 : Int) ≤ (j : Int) := Int.natCast_nonneg _
        by_cases hlt : j < (liv s).length
        · have hjI : (j : Int) < ((liv s).length : Int) := by omega
          have hcr := (HKW.out _ _ HSQ.out).1 j hlt
          obtain ⟨hxl, -, -⟩ := HLA.out j hlt
          have hrl : (s.t.row ((liv s).getD j 0)).length = 2 * g := HR.out.inv.len _ hxl
          have HRB : Hid (∀ c, c < 2 * g → -1 ≤ (s.t.row ((liv s).getD j 0)).getD c 0 ∧ (s.t.row ((liv s).getD j 0)).getD c 0 < s.t.length) := Lib.hid fun c hc => HR.out.inv.bd _ hxl c hc
          have HRL := Lib.hid hrl
          have HSR : Hid (sqRow s ((liv s).getD j 0) = (s.t.row ((liv s).getD j 0)).map (sqF s)) := Lib.hid rfl
          have HSQ3 : Hid (SqM base s bl W2 wr (fun i => if i = j then mixTo (sqF s) (s.t.row ((liv s).getD j 0)) 0 else if i < j then sqRow s ((liv s).getD i 0) else s.t.row ((liv s).getD i 0))) := Lib.hid (HSQ.out.congr fun i hi => by
            by_cases e : i = j
            · subst e; rw [if_pos rfl, if_neg (Nat.lt_irrefl _), mix_zero]
            · rw [if_neg e])
          have hg0 : (1 : Int) ≤ (g : Int) := by omega
          have hgI : (g : Int) ≤ 16 := by omega
          unfold rowV at hcr
          rw [hrl] at hcr
          clear hrl hxl
          generalize hxx : (liv s).getD j 0 = x at *
          have HXX := Lib.hid hxx
          clear hxx
          go_wp2_with fail
          go_loopw [52] (fun i wr => ∃ c : Nat, i = .int .i64 (c : Int) ∧ c ≤ 2 * g ∧ Hid (SqM base s bl W2 wr (fun i => if i = j then mixTo (sqF s) (s.t.row x) c else if i < j then sqRow s ((liv s).getD i 0) else s.t.row ((liv s).getD i 0)))) (fun i _ => 2 * g - (intOf i).toNat)
          case atStart => exact ⟨0, rfl, Nat.zero_le _, HSQ3⟩
          case round =>
            clear HSQ3 HSQ hcr
            obtain ⟨c, rfl, hc, HSQ⟩ := hrel
            have hc0 : (0 : Int) ≤ (c : Int) := Int.natCast_nonneg _
            by_cases hcg : c < 2 * g
            · have hcI : (c : Int) < 2 * (g : Int) := by omega
              have hx := HSQ.out.row j hlt
              simp only [if_true] at hx
              rw [HXX.out] at hx
              have hml : c < (mixTo (sqF s) (s.t.row x) c).length := by rw [length_mix, HRL.out]; exact hcg
              have hck := hx.cell hml
              rw [mix_getD _ _ _ (by rw [HRL.out]; exact hcg), if_neg (Nat.lt_irrefl _)] at hck
              have hfk := hx.frozen c
              obtain ⟨hb1, hb2⟩ := HRB.out c hcg
              obtain ⟨v, hv⟩ : ∃ v, v = (s.t.row x).getD c 0 := ⟨_, rfl⟩
              rw [← hv] at hck hb1 hb2
              have HSS : Hid (∀ z, SqM base s bl W2 (wr.setCell ⟨bl x, c, none⟩ (.int .i64 z)) (fun i => if i = j then (mixTo (sqF s) (s.t.row x) c).set c z else if i < j then sqRow s ((liv s).getD i 0) else s.t.row ((liv s).getD i 0))) := Lib.hid fun z => by
                have h1 := HSQ.out.set (fun i hi => (HBB.out i hi).1) HJ.out hlt (by simp only [if_true]; exact hml) z
                rw [HXX.out] at h1
                refine h1.congr fun i hi => ?_
                by_cases e : i = j
                · subst e; simp only [if_true]
                · simp only [if_neg e]
              by_cases h0 : 0 ≤ v
              · obtain ⟨y, rfl⟩ : ∃ y : Nat, v = (y : Int) := ⟨v.toNat, by omega⟩
                have hyl : y < s.t.length := by omega
                have hx2 := (HKW.out _ _ HSQ.out).2.cell (k := y) (by rw [length_nmS]; exact hyl)
                rw [nmS_getD s _ hyl, if_pos hyl] at hx2
                have HMX : Hid (mixTo (sqF s) (s.t.row x) (c + 1) = (mixTo (sqF s) (s.t.row x) c).set c (num s y : Int)) := Lib.hid (by
                  rw [mix_set _ _ (by rw [HRL.out]; exact hcg), ← hv]
                  unfold sqF
                  rw [if_pos h0, Int.toNat_natCast])
                have HS5 := Lib.hid (HSS.out (num s y : Int))
                have hy0 : (0 : Int) ≤ (y : Int) := Int.natCast_nonneg _
                clear HSS hx hml hv hb1
                go_wp2_with fail
                go_roundw
                case rel => exact ⟨c + 1, by go_num, by omega, Lib.hid (by rw [HMX.out]; exact HS5.out)⟩
                case measure => simp [intOf]; omega
              · have HMX : Hid (mixTo (sqF s) (s.t.row x) (c + 1) = mixTo (sqF s) (s.t.row x) c) := Lib.hid (mix_same (by rw [HRL.out]; exact hcg) (by rw [← hv]; unfold sqF; rw [if_neg h0]))
                clear HSS hx hml hv
                go_wp2_with fail
                go_roundw
                case rel => exact ⟨c + 1, by go_num, by omega, Lib.hid (by rw [HMX.out]; exact HSQ.out)⟩
                case measure => simp [intOf]; omega
            · obtain rfl : c = 2 * g := by omega
              have HS6 : Hid (SqM base s bl W2 wr (fun i => if i < j + 1 then sqRow s ((liv s).getD i 0) else s.t.row ((liv s).getD i 0))) := Lib.hid (HSQ.out.congr fun i hi => by
                by_cases e : i = j
                · subst e; rw [if_pos rfl, if_pos (Nat.lt_succ_self _), HXX.out, ← HRL.out, mix_all]; rfl
                · rw [if_neg e]
                  by_cases e2 : i < j
                  · rw [if_pos e2, if_pos (by omega)]
                  · rw [if_neg e2, if_neg (by omega)])
              go_wp2_with fail
              go_roundw
              case rel => exact ⟨j + 1, by go_num, by omega, HS6⟩
              case measure => simp [intOf]; omega
        · obtain rfl : j = (liv s).length := by omega
          go_wp2_with fail
          go_ret2
          have h := HSQ.out
          refine ⟨_, _, rfl, (HKW.out _ _ h).2, owns_keep HON.out fun r hr => h.keep r (owns_lt HON.out hr) fun i hi e => ?_, fun i hi => ?_, fun k hk hn => (h.keep k (Nat.lt_of_lt_of_le hk HBN.out.size) hn).trans (HBN.out.block k hk), (HBN.out.mono hbw).trans h.below⟩
          · have h1 := (owns_block HON.out r hr).1
            have h2 := (HBB.out i hi).2
            omega
          · have h1 := h.row i hi
            rwa [if_pos hi] at h1
end Go.Proofs
namespace Go.Proofs
open Go.RowKit Go.Shelf Go.Proofs.Ct Go.Maps
def felschE (g : Int) (rels sub : List W) (limit : Int) : Tb × (Int × Int) × Int :=
  if givenE g rels sub limit ≠ 0 then ([], (0, 0), givenE g rels sub limit) else
  match felschS (2 * g.toNat) limit.toNat rels sub with
  | none => ([], (0, 0), 12)
  | some f => ((stdE g (tabS f.s) 0).1, ((f.s.t.length : Int), f.s.most), 0)
theorem felschE_bad {g : Int} {rels sub : List W} {limit : Int} (h : givenE g rels sub limit ≠ 0) : felschE g rels sub limit = ([], (0, 0), givenE g rels sub limit) := if_pos h
theorem felschE_full {g lim : Nat} {rels sub : List W} (h : givenE g rels sub lim = 0) (h3 : felschS (2 * g) lim rels sub = none) : felschE g rels sub lim = ([], (0, 0), 12) := by
  unfold felschE; rw [if_neg (by rw [h]; simp), Int.toNat_natCast, Int.toNat_natCast, h3]
theorem felschE_some {g lim : Nat} {rels sub : List W} {f : FS} (h : givenE g rels sub lim = 0) (h3 : felschS (2 * g) lim rels sub = some f) : felschE g rels sub lim = ((stdE g (tabS f.s) 0).1, ((f.s.t.length : Int), f.s.most), 0) := by
  unfold felschE; rw [if_neg (by rw [h]; simp), Int.toNat_natCast, Int.toNat_natCast, h3]
theorem givenE_all {g : Int} {rels sub : List W} {limit : Int} (h : givenE g rels sub limit = 0) : ∃ gn lim : Nat, g = gn ∧ limit = lim ∧ 1 ≤ gn ∧ gn ≤ 16 ∧ rels.length ≤ 100 ∧ (∀ j, j < rels.length → LetsOk gn (rels.getD j []) ∧ (rels.getD j []).length ≤ 4000) ∧ (∀ j, LOk gn (rels.getD j [])) ∧ (∀ j, LOk gn (sub.getD j [])) ∧ sub.length ≤ 100 ∧ 1 ≤ lim ∧ lim ≤ 20000 := by
  unfold givenE at h
  split at h
  · next h1 => exact absurd h h1
  · next h1 =>
    obtain ⟨gn, rfl, hg1, hg16, hrl, hrg⟩ := presE_good (Decidable.not_not.1 h1)
    rw [Int.toNat_natCast] at h
    split at h
    · cases h
    · next h2 =>
      unfold badArgs at h2
      simp only [Bool.or_eq_true, decide_eq_true_eq, not_or] at h2
      obtain ⟨⟨⟨⟨h3, h4⟩, h5⟩, h6⟩, h7⟩ := h2
      have h5' : (sub.any fun w => w.any (letBad gn)) = false := by simpa using h5
      refine ⟨gn, limit.toNat, rfl, by omega, hg1, hg16, hrl, hrg, fun j => ?_, fun j => ?_, by omega, by omega, by omega⟩
      rcases Nat.lt_or_ge j rels.length with hj | hj
      · exact (hrg j hj).1
      · rw [List.getD_eq_getElem?_getD, List.getElem?_eq_none hj]
        exact fun x hx => by cases hx
      · rcases Nat.lt_or_ge j sub.length with hj | hj
        · exact subs_good h5' j hj
        · rw [List.getD_eq_getElem?_getD, List.getElem?_eq_none hj]
          exact fun x hx => by cases hx
theorem sq_tab {g : Nat} {s : St} (h : Ct.Rest g s) (hc : ∀ r, r < s.t.length → s.rp r = r → ∀ c, c < 2 * g → 0 ≤ s.t.at r c) : (liv s).map (sqRow s) = tabS s := by
  unfold tabS
  refine List.map_congr_left fun x hx => ?_
  obtain ⟨i, hi, rfl⟩ := List.mem_iff_getElem.1 hx
  have h1 := liv_at (s := s) hi
  rw [List.getD_eq_getElem?_getD, List.getElem?_eq_getElem hi] at h1
  simp only [Option.getD_some] at h1
  unfold sqRow
  refine List.map_congr_left fun v hv => ?_
  obtain ⟨c, hcl, rfl⟩ := List.mem_iff_getElem.1 hv
  have h2 := hc _ h1.1 h1.2.1 c (by rw [← h.inv.len _ h1.1]; exact hcl)
  unfold Tb.at at h2
  rw [List.getD_eq_getElem?_getD, List.getElem?_eq_getElem hcl] at h2
  exact if_pos h2
end Go.Proofs
