/- TietzeSame: the first rows of a list; the region that joins an image; TietzeSame: the permutations that are left, and those of the images. -/
import Derived.Test.YtmmbmhjdnlmedaaTsCS23
namespace Go.Proofs
open Go.RowKit Go.Shelf Go.Lib Go.Sort Go.Proofs.Ct Go.Proofs.Tz Go.Maps
theorem tab_cut {w : World} {A : Option Addr} {n c h : Nat} {xs : List (List Int)} (ht : Tab w (.slice A n c) xs) (hh : h ≤ xs.length) (h0 : 0 < h) : Tab w (.slice A h c) (xs.take h) := by
  obtain ⟨vs, ⟨A', n', c', e, hl, hn, hc, hcell⟩, hv, hr⟩ := ht
  obtain ⟨rfl, rfl, rfl⟩ := Value.slice.inj e
  obtain ⟨b, o, rfl, hcl⟩ := hcell (by omega)
  refine ⟨vs.take h, ⟨_, h, c, rfl, by rw [List.length_take]; omega, by omega, hc, fun _ => ⟨b, o, rfl, fun j v hj => ?_⟩⟩, by rw [List.length_take, List.length_take]; omega, fun i hi => ?_⟩
  · have hj' : j < h := by have := (List.getElem?_eq_some_iff.1 hj).1; rw [List.length_take] at this; omega
    rw [List.getElem?_take, if_pos hj'] at hj
    exact hcl j v hj
  · rw [List.length_take] at hi
    obtain ⟨u, hu, hx⟩ := hr i (by omega)
    refine ⟨u, by rw [List.getElem?_take, if_pos (by omega)]; exact hu, ?_⟩
    have e2 : (xs.take h).getD i [] = xs.getD i [] := by rw [List.getD_eq_getElem?_getD, List.getD_eq_getElem?_getD, List.getElem?_take, if_pos (by omega)]
    rw [e2]
    exact hx
theorem r_cut42 {o : Oper} {a : Act} {w : World} (x : Operand) (b f n c : Nat) (ho : o.op = .slice 42 x none (some (.const (.int .i64 2))) none) (hx : a.eval x = .slice (some ⟨b, f, none⟩) n c) (hn : 2 ≤ c) : (execOp a.eval o).run Try.prog w = .ok (.value (.slice (some ⟨b, f, none⟩) 2 c)) w := by
  have h2 : (2 : Int) ≤ (c : Int) := by omega
  have hs := Try.sizeOf40 w
  have hb : a.eval (.const (.int .i64 2)) = .int .i64 2 := rfl
  unfold execOp
  simp only [ho, hx, hb, Option.map_none, Option.map_some, Sem.run_bind]
  simp [Instr.slice, go_sem, Try.underlying42, h2]
/-- the permutations where a presentation's box or its list of relators has changed -/
theorem MS.box {b0 B pb : Nat} {FM X F : Nat → Prop} {v vb vr : Value} {M : List (List Nat)} {W W' wa : World} {nb : Int} {R : List (List Int)} (h : MS b0 FM v M W) (hp : PS B pb X F wa nb vb vr R W) (hB : b0 ≤ B) (hk : BelX (fun q => q = pb ∨ vr.ownBlock = some q) W W') : MS b0 FM v M W' := by
  have hx : ∀ k C t, W.heap[k]? = some (Obj.cells C t (0, 0)) → t ≠ 27 → t ≠ 24 → W'.heap[k]? = W.heap[k]? := fun k C t hC h1 h2 => hk.block k (Array.getElem?_eq_some_iff.1 hC).1 fun e => by
    rcases e with rfl | e
    · exact (ne_type hC hp.box h1) rfl
    · obtain ⟨-, D, hD⟩ := hp.out.block k e
      exact (ne_type hC hD h2) rfl
  refine h.keep hk.size (fun k h1 h2 => hk.block k h2 fun e => ?_) (fun k C _ hC => hx k C 3 hC (by decide) (by decide)) fun r C hC _ => hx r C 40 hC (by decide) (by decide)
  rcases e with rfl | e
  · have := hp.lo
    omega
  · have := (hp.out.block k e).1
    omega
theorem belx_put (W : World) (pb k : Nat) (z : Value) (X : Nat → Prop) (hx : X pb) : BelX X W (W.setCell ⟨pb, k, none⟩ z) := BelX.of_grown (grown_setCell W pb k z) fun r hr => by cases hr; exact hx
/-- the first permutations of a list of the call's own -/
theorem MS.cut {b0 : Nat} {FM : Nat → Prop} {A : Option Addr} {n c : Nat} {M : List (List Nat)} {W : World} (h : MS b0 FM (.slice A n c) M W) (hn : n = M.length) (h2 : 2 ≤ n) : ∃ g, A = some ⟨g, 0, none⟩ ∧ 2 ≤ c ∧ Tab W (.slice (some ⟨g, 0, none⟩) 2 c) ((M.take 2).map nz) := by
  obtain ⟨g, rfl⟩ := h.out.some_ (by rw [List.length_map]; omega)
  obtain ⟨A', c', e, h3, -, -⟩ := LAt.open_ h.tab
  obtain ⟨-, -, rfl⟩ := Value.slice.inj e
  rw [List.length_map] at h3
  refine ⟨g, rfl, by omega, ?_⟩
  rw [List.map_take]
  exact tab_cut h.tab (by rw [List.length_map]; omega) (by omega)
theorem call17 (args : Array Value) (w : World) : (callFunc 17 args).run Try.prog w = .ok (.enter 17 args) w := enters_of Try.func17 (by kernel_rfl) rfl args w
theorem bs42_1 (A : Option Addr) (n c : Nat) (w : World) : (Instr.buildSlice 42 1 #[(0, .slice A n c)]).run Try.prog w = .ok (.slice (some ⟨w.heap.size, 0, none⟩) 1 1) (w.alloc (.cells #[.slice A n c] 40)) := by kernel_rfl
theorem r_bs42_1 {o : Oper} {a : Act} {w : World} (x : Operand) (A : Option Addr) (n c : Nat) (ho : o.op = .buildSlice 42 1 #[(0, x)]) (hx : a.eval x = .slice A n c) : (execOp a.eval o).run Try.prog w = .ok (.value (.slice (some ⟨w.heap.size, 0, none⟩) 1 1)) (w.alloc (.cells #[.slice A n c] 40)) := by
  have hb := bs42_1 A n c w
  unfold execOp
  simp only [ho, List.map_toArray, List.map_cons, List.map_nil, hx, Sem.run_bind, hb, Result.andThen_ok]
  rfl
theorem imgP_appM {M N : List (List Nat)} {d : Nat} {u : Ct.W} (hu : LOk M.length u) : imgP (M ++ N) d u = imgP M d u := by
  unfold imgP
  exact List.map_congr_left fun x _ => actW_appM hu
/-- the state behind a definition -/
theorem def_step {M Mk : List (List Nat)} {d k : Nat} {u : Ct.W} {R : List Ct.W} {nb : Int} (hM : ∀ a ∈ M, Prm d a) (hMl : M.length = 2) (hu : LOk 2 u) (hu12 : u.length ≤ 12) (hnb : nb = 2 + (k : Int) + 1) (h1 : Mk.length = 2 + k) (h2 : ∀ a ∈ Mk, Prm d a) (h3 : Mk.take 2 = M) (h4 : R.length ≤ 6 + k) (h5 : ∀ x ∈ R, LOk (2 + k) x ∧ x.length ≤ 72) (h6 : satB Mk d R = true) :
    (Mk ++ [imgP M d u]).length = 2 + (k + 1) ∧ (∀ a ∈ Mk ++ [imgP M d u], Prm d a) ∧ (Mk ++ [imgP M d u]).take 2 = M ∧ (R ++ [u ++ [-nb]]).length ≤ 6 + (k + 1) ∧ (∀ x ∈ R ++ [u ++ [-nb]], LOk (2 + (k + 1)) x ∧ x.length ≤ 72) ∧ satB (Mk ++ [imgP M d u]) d (R ++ [u ++ [-nb]]) = true := by
  have hN : Mk = M ++ Mk.drop 2 := by rw [← h3]; exact (List.take_append_drop 2 Mk).symm
  have hI : imgP M d u = imgP Mk d u := by rw [hN]; exact (imgP_appM (by rw [hMl]; exact hu)).symm
  refine ⟨by rw [List.length_append, h1]; rfl, fun a ha => ?_, ?_, by rw [List.length_append, List.length_singleton]; omega, fun x hx => ?_, ?_⟩
  · rcases List.mem_append.1 ha with h | h
    · exact h2 a h
    · rw [List.mem_singleton.1 h]
      exact imgP_prm hM (by rw [hMl]; exact hu)
  · rw [List.take_append_of_le_length (by omega)]
    exact h3
  · rcases List.mem_append.1 hx with h | h
    · exact ⟨fun z hz => by have := (h5 x h).1 z hz; omega, (h5 x h).2⟩
    · rw [List.mem_singleton.1 h]
      refine ⟨fun z hz => ?_, by rw [List.length_append, List.length_singleton]; omega⟩
      rcases List.mem_append.1 hz with h | h
      · have := hu z h
        omega
      · rw [List.mem_singleton.1 h]
        omega
  · rw [satB_app, satB_appM (fun w hw => by rw [h1]; exact (h5 w hw).1), h6, hI, show -nb = -(((2 + k : Nat) : Int) + 1) by omega, sat_def h2 h1 fun z hz => by have := hu z hz; omega]
    rfl
theorem lenL_mul {m : Nat} : ∀ {l : List (List Int)}, (∀ x ∈ l, x.length ≤ m) → lenL l ≤ l.length * m
  | [], _ => by simp [lenL]
  | x :: l, h => by
    have h1 := h x (by simp)
    have h2 := lenL_mul (l := l) fun y hy => h y (by simp [hy])
    have e : lenL (x :: l) = x.length + lenL l := by simp [lenL]
    rw [e, List.length_cons, Nat.succ_mul]
    omega
/-- the presentation behind the definitions is one -/
theorem pres_def {k : Nat} {R : List Ct.W} (hk : k ≤ 2) (h4 : R.length ≤ 6 + k) (h5 : ∀ x ∈ R, LOk (2 + k) x ∧ x.length ≤ 72) : presE ((2 + k : Nat) : Int) R = 0 :=
  presE_of (by omega) (by omega) (fun x hx => (h5 x hx).1) (by
    have h1 := lenL_mul (m := 72) fun x hx => (h5 x hx).2
    have h2 : R.length * 72 ≤ 8 * 72 := Nat.mul_le_mul_right _ (by omega)
    omega)
end Go.Proofs
namespace Go.Proofs
open Go.RowKit Go.Shelf Go.Lib Go.Sort Go.Proofs.Ct Go.Proofs.Tz Go.Maps
/-- a permutation that lies below joins -/
theorem MS.share {b0 : Nat} {v : Value} {M : List (List Nat)} {W : World} {A : Option Addr} {d c : Nat} {p : List Nat} (h : MS b0 (fun k => k < b0) v M W) (hx : IntsF (fun k => k < b0) W (.slice A d c) (nz p)) (hl : M.length ≤ 1000) (hb : b0 ≤ W.heap.size) :
    ∃ A' c' W', (Builtin.append_ #[42, 42] 42 #[v, .slice (some ⟨W.heap.size, 0, none⟩) 1 1]).run Try.prog (W.alloc (.cells #[.slice A d c] 40)) = .ok (.slice A' (M.length + 1) c') W' ∧ MS b0 (fun k => k < b0) (.slice A' (M.length + 1) c') (M ++ [p]) W' ∧ Below b0 W W' := by
  obtain ⟨vals, h1, h2⟩ := h.out
  rw [List.length_map] at h1
  obtain ⟨A', c', W', hr, ho, hg, -⟩ := run_push (t := 42) (ty := 42) Try.underlying42 info40p rfl (by omega) W b0 v M.length vals h1 (.slice A d c) rfl (by omega) hb
  have ag : Ag (fun k => k < b0) W W' := Ag.grown hg fun k hk => ⟨Nat.lt_of_lt_of_le hk hb, fun e => by
    have := (owns_block h1 k e).1
    omega⟩
  refine ⟨A', c', W', hr, ⟨⟨vals ++ [.slice A d c], ?_, ?_⟩, fun k hk => ⟨Nat.lt_of_lt_of_le hk (Nat.le_trans hb hg.size), .inl hk⟩⟩, (Below.refl _ _).grown hg hb fun r hr => (owns_block h1 r hr).1⟩
  · rw [List.map_append, List.length_append, List.length_map]
    exact ho
  · rw [List.map_append]
    exact (h2.keep ag fun _ h => h).snoc (hx.keep ag)
theorem MS.nil' (b0 : Nat) (W : World) (hb : b0 ≤ W.heap.size) : MS b0 (fun k => k < b0) (.slice none 0 0) [] W := ⟨⟨[], World.ownsRow_nil _ _ _ _, RowsF.nil _ _⟩, fun _k hk => ⟨Nat.lt_of_lt_of_le hk hb, .inl hk⟩⟩
theorem leftM_take {M : List (List Nat)} {back : List Int} {j : Nat} (h : j < back.length) : leftM M (back.take (j + 1)) = leftM M (back.take j) ++ [M.getD (back.getD j 0 - 1).toNat []] := by
  unfold leftM
  rw [List.take_add_one, List.getElem?_eq_getElem h, List.map_append]
  simp [List.getD_eq_getElem?_getD, h]
theorem leftM_take_len {M : List (List Nat)} {back : List Int} {j : Nat} (h : j ≤ back.length) : (leftM M (back.take j)).length = j := by
  simp [leftM]
  omega
/-- the rows of a list that lies below -/
theorem rows_f {w : World} {vm : Value} {M : List (List Nat)} {d : Nat} (h : Tab w vm (M.map nz)) (hM : ∀ a ∈ M, Prm d a) (hd : 1 ≤ d) (h0 : 0 < M.length) : ∃ bm om cm, vm = .slice (some ⟨bm, om, none⟩) M.length cm ∧ ∀ W, Below w.heap.size w W → ∀ q, q < M.length → ∃ A c, W.cell? ⟨bm, om + q, none⟩ = some (.slice A d c) ∧ IntsF (fun k => k < w.heap.size) W (.slice A d c) (nz (M.getD q [])) := by
  obtain ⟨bm, om, cm, e, hr⟩ := rows_at h hM hd h0
  refine ⟨bm, om, cm, e, fun W hb q hq => ?_⟩
  obtain ⟨bq, oq, cq, h1, h2⟩ := hr q hq
  exact ⟨_, cq, (hb.cell (p := ⟨bm, om + q, none⟩) (World.block_lt_of_cell? w _ h1)).trans h1, (IntsF.of_at h2).keep (Ag.below hb fun k hk => hk)⟩
/-- a number of a list that lies below -/
theorem ints_f {w : World} {A : Option Addr} {n c : Nat} {x : List Int} (h : IntsAt w (.slice A n c) x) {j : Nat} (hj : j < x.length) : ∃ b o, A = some ⟨b, o, none⟩ ∧ n = x.length ∧ ∀ W, Below w.heap.size w W → ∀ j, j < x.length → W.cell? ⟨b, o + j, none⟩ = some (.int .i64 (x.getD j 0)) := by
  obtain ⟨A', c', e', -, -, hcc⟩ := h.open_
  obtain ⟨rfl, rfl, rfl⟩ := Value.slice.inj e'
  obtain ⟨b, o, rfl, hc⟩ := hcc (by omega)
  exact ⟨b, o, rfl, rfl, fun W hb j hj => (hb.cell (p := ⟨b, o + j, none⟩) (World.block_lt_of_cell? w _ (hc j hj))).trans (hc j hj)⟩
/-- a word of a list that lies below -/
theorem words_f {w : World} {A : Option Addr} {n c : Nat} {l : List (List Int)} (h : Tab w (.slice A n c) l) {i : Nat} (hi : i < l.length) : ∃ b o, A = some ⟨b, o, none⟩ ∧ n = l.length ∧ ∀ W, Below w.heap.size w W → ∀ i, i < l.length → ∃ Au cu, W.cell? ⟨b, o + i, none⟩ = some (.slice Au (l.getD i []).length cu) ∧ IntsAt W (.slice Au (l.getD i []).length cu) (l.getD i []) := by
  obtain ⟨A', c', e', -, -, hcc⟩ := LAt.open_ h
  obtain ⟨rfl, rfl, rfl⟩ := Value.slice.inj e'
  obtain ⟨b, o, rfl, hc⟩ := hcc (by omega)
  refine ⟨b, o, rfl, rfl, fun W hb i hi => ?_⟩
  obtain ⟨u, hu, hx⟩ := hc i hi
  obtain ⟨Au, cu, rfl, -, -, -⟩ := hx.open_
  exact ⟨Au, cu, (hb.cell (p := ⟨b, o + i, none⟩) (World.block_lt_of_cell? w _ hu)).trans hu, hx.below hb⟩
/-- two tables of a row each -/
theorem row_tab {W : World} {A : Option Addr} {d c : Nat} {p : List Nat} (e : TypeId) (h : IntsAt W (.slice A d c) (nz p)) : Tab (W.alloc (.cells #[.slice A d c] e)) (.slice (some ⟨W.heap.size, 0, none⟩) 1 1) [nz p] :=
  tab_blk (us := [.slice A d c]) (heap_alloc_new W _) rfl rfl (by simp) fun i hi => by
    obtain rfl : i = 0 := by simpa using hi
    exact h.below ((Below.refl _ _).alloc (Nat.le_refl _) _)
end Go.Proofs
