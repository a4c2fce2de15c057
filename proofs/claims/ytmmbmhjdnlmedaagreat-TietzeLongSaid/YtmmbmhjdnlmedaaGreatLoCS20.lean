/- tietze.Simplify. -/
import Derived.Test.YtmmbmhjdnlmedaaGreatLoCS19
import Derived.Deep.CutBlock
import Derived.Deep.CutRange
namespace Go.Proofs
open Go.RowKit Go.Shelf Go.Lib Go.Sort Go.Proofs.Ct Go.Proofs.Tz Go.Maps
theorem r_build65 {o : Oper} {a : Act} {w : World} (x : Operand) (g : Int) (A : Option Addr) (n c : Nat) (ho : o.op = .build 68 #[(0, x)]) (hx : a.eval x = .agg #[.int .i64 g, .slice A n c]) : (execOp a.eval o).run Tryz.prog w = .ok (.value (.agg #[.int .i64 g, .slice A n c, .slice none 0 0, .slice none 0 0, .int .i64 0])) w := by
  have hb := build65 g A n c w
  unfold execOp
  simp only [ho, List.map_toArray, List.map_cons, List.map_nil, hx, Sem.run_bind, hb, Result.andThen_ok]
  rfl
theorem results_27_4 {fn : Func} {p q r t : Tmp} (h : fn.results = #[.cell p 24, .tmp q, .tmp r, .tmp t]) (tmps : Array Value) (w : World) (g : Nat) (cs : Array Value) (u v x : Value)
    (hp : tmps.getD p undef = .pointer (some ⟨g, 0, none⟩)) (hq : tmps.getD q undef = u) (hr : tmps.getD r undef = v) (ht : tmps.getD t undef = x) (hg : w.heap[g]? = some (.cells cs 24 (0, 0))) (hs : cs.size = 2) :
    (results fn tmps).run Tryz.prog w = .ok (.tuple #[.agg cs, u, v, x]) w := by
  have hp' : tmps[p]?.getD undef = .pointer (some ⟨g, 0, none⟩) := by simpa using hp
  have hq' : tmps[q]?.getD undef = u := by simpa using hq
  have hr' : tmps[r]?.getD undef = v := by simpa using hr
  have ht' : tmps[t]?.getD undef = x := by simpa using ht
  simp [results, h, hp', hq', hr', ht', asAddr, run_loadVar_row w g 24 24 cs (0, 0) _ hg Tryz.underlying24 rfl (by rw [hs]; exact info40s)]
def SimpPost (n : Nat) (rels : List (List Int)) (steps : Nat) (w : World) (e : Ending) (w' : World) : Prop :=
  (match simpE n rels steps with
  | .inl s => ∃ A a B b C c, e = .returned (.tuple #[.agg #[.int .i64 (s.n : Int), .slice A s.rels.length a], .slice B s.into.length b, .slice C s.back.length c, .int .i64 0]) ∧ Tab w' (.slice A s.rels.length a) s.rels ∧ Tab w' (.slice B s.into.length b) s.into ∧ IntsAt w' (.slice C s.back.length c) s.back
  | .inr _ => e = .returned (.tuple #[.agg #[.int .i64 0, .slice none 0 0], .slice none 0 0, .slice none 0 0, .int .i64 4])) ∧ Below w.heap.size w w'
/-- what a slot holds while a generator joins the lists -/
inductive SlG where
  | eq (v : Value) | word | wordl | form (m : Nat)
def SlG.holds (s0 : Nat) (z : Int) : SlG → Value → World → Prop
  | .eq u, v, _ => v = u
  | .word, v, W => ∃ b, v = .slice (some ⟨b, 0, none⟩) 1 1 ∧ s0 ≤ b ∧ W.heap[b]? = some (.cells #[.int .i64 z] 3 (0, 0))
  | .wordl, v, W => ∃ b b', v = .slice (some ⟨b', 0, none⟩) 1 1 ∧ s0 ≤ b ∧ s0 ≤ b' ∧ W.heap[b]? = some (.cells #[.int .i64 z] 3 (0, 0)) ∧ W.heap[b']? = some (.cells #[.slice (some ⟨b, 0, none⟩) 1 1] 36 (0, 0))
  | .form m, v, _ => ∃ A c, v = .slice A m c
theorem SlG.keep {s0 : Nat} {z : Int} {s : SlG} {v : Value} {w w' : World} (h : BelX (fun q => q < s0) w w') : s.holds s0 z v w → s.holds s0 z v w' := by
  have hk : ∀ (b : Nat) (o : Obj), s0 ≤ b → w.heap[b]? = some o → w'.heap[b]? = some o := fun b o hb ho => (h.block b (Array.getElem?_eq_some_iff.1 ho).1 (by omega)).trans ho
  cases s with
  | eq u => exact id
  | word => exact fun ⟨b, h1, h2, h3⟩ => ⟨b, h1, h2, hk b _ h2 h3⟩
  | wordl => exact fun ⟨b, b', h1, h2, h3, h4, h5⟩ => ⟨b, b', h1, h2, h3, hk b _ h2 h4, hk b' _ h3 h5⟩
  | form m => exact id
theorem sl_one1 {W : World} {b : Nat} {x : Value} {t : TypeId} (h : W.heap[b]? = some (.cells #[x] t (0, 0))) : Sl W (.slice (some ⟨b, 0, none⟩) 1 1) [x] :=
  ⟨_, 1, 1, rfl, rfl, Nat.le_refl _, by simp [maxLen], fun _ => ⟨b, 0, rfl, fun j v hv => by
    rw [cell_of_row _ _ _ _ _ _ h, Nat.zero_add]
    simpa using hv⟩⟩
def rowsN (k : Nat) : List (List Int) := (List.range k).map fun (i : Nat) => [(i : Int) + 1]
def numsN (k : Nat) : List Int := (List.range k).map fun (i : Nat) => (i : Int) + 1
theorem rowsN_succ (k : Nat) : rowsN (k + 1) = rowsN k ++ [[(k : Int) + 1]] := by simp [rowsN, List.range_succ]
theorem numsN_succ (k : Nat) : numsN (k + 1) = numsN k ++ [(k : Int) + 1] := by simp [numsN, List.range_succ]
theorem rowsN_len (k : Nat) : (rowsN k).length = k := by simp [rowsN]
theorem numsN_len (k : Nat) : (numsN k).length = k := by simp [numsN]
theorem slotv_same {a : Act} {t : Tmp} {v : Value} (h : t < a.tmps.size) : slotv (a.put (some t) v) (some t) = v := put_getD_same _ _ _ h
theorem TabX.new2 {X F : Nat → Prop} {w0 w : World} {v : Value} {l : List (List Int)} (h : OutSt 36 F w0 w v l) (hx : ∀ k, X k → ¬ F k ∧ v.ownBlock ≠ some k) : TabX X w v l := fun w' k => by
  have hb := h.out.block
  refine OwnT.tab (h.out.keep (fun r hr => ?_) (fun r hr => ?_) fun _ h => h)
  · obtain ⟨h1, C, hC⟩ := hb r hr
    exact (k.same r _ hC (isWL.l _ _) fun hx' => (hx r hx').2 hr).trans hC.symm
  · obtain ⟨h1, h2, C, hC⟩ := h.fs r hr
    exact (k.same r _ hC (isWL.w _ _) fun hx' => (hx r hx').1 hr).trans hC.symm
theorem LS.tabX {B : Nat} {F : Nat → Prop} {W : World} {vi vb : Value} {rows : List (List Int)} {nums : List Int} (h : LS B F W vi vb rows nums) {xb : Nat} {cs : Array Value} (hx : W.heap[xb]? = some (.cells cs 68 (0, 0))) : TabX (XB xb vb) W vi rows := fun w' k => by
  refine OwnT.tab (h.out.keep (fun r hr => ?_) (fun r hr => ?_) fun _ h => h)
  · obtain ⟨h1, C, hC⟩ := h.out.block r hr
    refine (k.same r _ hC (isWL.l _ _) fun hx' => ?_).trans hC.symm
    rcases hx' with rfl | hx'
    · exact (ne_type hC hx (by decide)) rfl
    · obtain ⟨-, D, hD⟩ := owns_block h.row r hx'
      exact (ne_type hC hD (by decide)) rfl
  · obtain ⟨h1, h2, C, hC⟩ := h.fs r hr
    refine (k.same r _ hC (isWL.w _ _) fun hx' => ?_).trans hC.symm
    rcases hx' with rfl | hx'
    · exact (ne_type hC hx (by decide)) rfl
    · exact h.ap r hx' hr
section
variable {o : Oper} {a : Act} {w w' : World}
end
theorem run_store_fn (P : Program) (w : World) (a : Addr) (m : Mode) (f : Fn) (c : Array Value) (lb : Array Value) : (store a (.func f c lb) m).run P w = stored P w a (.func f c lb) m := run_store P w a _ m rfl
attribute [local go_sem] run_store_fn
/-- the state between two steps -/
structure Sim (w : World) (n : Nat) (rels : List (List Int)) (steps m xb bw : Nat) (s : Sp) (W : World) (A : Option Addr) (a : Nat) (B : Option Addr) (b : Nat) (C : Option Addr) (c : Nat) : Prop where
  st : StX w.heap.size xb s 0 W A a B b C c
  ok : Okay n s
  il : ∀ z ∈ s.into, z.length ≤ 4000
  eq : simpTo m s = simpE n rels steps
  ptr : W.heap[xb + 1]? = some (.cells #[.pointer (some ⟨xb, 0, none⟩)] 66 (0, 0))
  ways : W.heap[bw]? = some (.cells #[.func (.func 43) #[] #[], .func (.func 41) #[] #[]] 72 (0, 0))
  res : ∃ cs, cs.size = 2 ∧ W.heap[w.heap.size + 1]? = some (.cells cs 24 (0, 0)) ∧ ∃ x y, cs = #[x, y]
  below : Below w.heap.size w W
theorem sim_other {base xb : Nat} {s : Sp} {W W' : World} {A : Option Addr} {a : Nat} {B : Option Addr} {b : Nat} {C : Option Addr} {c : Nat} (hS : StX base xb s 0 W A a B b C c) (hb : BelX (XB xb (.slice C s.back.length c)) W W') {k : Nat} {cs : Array Value} {t : TypeId} (hk : W.heap[k]? = some (.cells cs t (0, 0))) (h1 : t ≠ 68) (h2 : t ≠ 3) : W'.heap[k]? = some (.cells cs t (0, 0)) :=
  (hb.block k (Array.getElem?_eq_some_iff.1 hk).1 fun hx => by
    rcases hx with rfl | hx
    · exact (ne_type hk hS.box h1) rfl
    · obtain ⟨-, D, hD⟩ := owns_block hS.back k hx
      exact (ne_type hk hD h2) rfl).trans hk
theorem sim_below {base xb : Nat} {s : Sp} {W W' : World} {A : Option Addr} {a : Nat} {B : Option Addr} {b : Nat} {C : Option Addr} {c : Nat} (hS : StX base xb s 0 W A a B b C c) (hb : BelX (XB xb (.slice C s.back.length c)) W W') (hB : base ≤ W.heap.size) : Below base W W' :=
  hb.below hB fun k hk => by
    rcases hk with rfl | hk
    · exact hS.lo
    · exact (owns_block hS.back k hk).1
theorem Sim.step {w : World} {n : Nat} {rels : List (List Int)} {steps m xb bw : Nat} {s s' : Sp} {W W' : World} {A A' : Option Addr} {a a' : Nat} {B B' : Option Addr} {b b' : Nat} {C : Option Addr} {c : Nat} (h : Sim w n rels steps (m + 1) xb bw s W A a B b C c) (hs : StX w.heap.size xb s' 0 W' A' a' B' b' C c) (hb : BelX (XB xb (.slice C s.back.length c)) W W') (hok : Okay n s') (hil : ∀ z ∈ s'.into, z.length ≤ 4000) (he : simpTo (m + 1) s = simpTo m s') : Sim w n rels steps m xb bw s' W' A' a' B' b' C c := by
  obtain ⟨cs, h1, h2, x, y, h3⟩ := h.res
  exact ⟨hs, hok, hil, he.symm.trans h.eq, sim_other h.st hb h.ptr (by decide) (by decide), sim_other h.st hb h.ways (by decide) (by decide), ⟨cs, h1, sim_other h.st hb h2 (by decide) (by decide), x, y, h3⟩, h.below.trans (sim_below h.st hb h.below.size)⟩
theorem elim_il {s s' : Sp} (h : s.elim = some (.inl s')) : ∀ z ∈ s'.into, z.length ≤ 4000 := by
  unfold Sp.elim at h
  split at h
  · cases h
  · rename_i q gen hq
    injection h with h
    split at h
    · cases h
    · rename_i l hl
      injection h with h
      subst h
      obtain ⟨rfl, h2⟩ := sbL_some hl
      intro z hz
      obtain ⟨y, hy, rfl⟩ := List.mem_map.1 hz
      exact h2 y hy
theorem agg28w (w : World) : (isAgg 27).run Tryz.prog w = .ok false w := by kernel_rfl
/-- what stands behind the steps: an error -/
structure ErrS (w : World) (xb : Nat) (W : World) : Prop where
  ptr : W.heap[xb + 1]? = some (.cells #[.pointer (some ⟨xb, 0, none⟩)] 66 (0, 0))
  e : W.cell? ⟨xb, 4, none⟩ = some (.int .i64 4)
  res : ∃ cs, cs.size = 2 ∧ W.heap[w.heap.size + 1]? = some (.cells cs 24 (0, 0)) ∧ ∃ x y, cs = #[x, y]
  below : Below w.heap.size w W
  ne : w.heap.size + 1 < xb
theorem back_fits {n : Nat} {s : Sp} (h : Okay n s) (hn : n ≤ 16) : Fits s.back := fun z hz => by
  obtain ⟨i, hi, rfl⟩ := List.getElem_of_mem hz
  obtain ⟨q, h1, h2⟩ := h.bb i (by rw [← h.bl]; exact hi)
  rw [List.getD_eq_getElem?_getD, List.getElem?_eq_getElem hi] at h2
  have h3 : s.back[i] = (q : Int) + 1 := h2
  rw [h3]
  omega
theorem least_or (p : Nat → Prop) : ∀ n, (∀ j, j < n → ¬ p j) ∨ ∃ k, k < n ∧ p k ∧ ∀ j, j < k → ¬ p j
  | 0 => .inl fun j hj => absurd hj (by omega)
  | n + 1 => by
    rcases least_or p n with h | ⟨k, h1, h2, h3⟩
    · by_cases hp : p n
      · exact .inr ⟨n, by omega, hp, h⟩
      · exact .inl fun j hj => by
          rcases Nat.lt_succ_iff_lt_or_eq.1 hj with h' | rfl
          · exact h j h'
          · exact hp
    · exact .inr ⟨k, by omega, h2, h3⟩
theorem vld_of {n : Nat} {rels : List (List Int)} (h : presE n rels = 0) : Vld n rels := by
  obtain ⟨gn, hgn, hg1, hg2, hln, hall⟩ := presE_good h
  obtain rfl : n = gn := by omega
  refine ⟨hg1, hg2, hln, ?_, fun w hw => ?_⟩
  · rcases least_or (fun k => presBad n rels k ≠ 0) rels.length with h0 | ⟨k, h1, h2, h3⟩
    · rcases Nat.eq_zero_or_pos rels.length with hz | hz
      · rw [List.eq_nil_of_length_eq_zero hz]; simp [lenL]
      · have h4 := h0 (rels.length - 1) (by omega)
        refine Nat.not_lt.1 fun h5 => h4 ?_
        rw [presBad_long]
        · decide
        · rw [show rels.length - 1 + 1 = rels.length by omega, sumTo_lenTo rels rels.length (Nat.le_refl _)]
          unfold lenTo
          rw [List.take_length]
          exact h5
    · have := presE_some ⟨hg1, hg2⟩ hln h1 (fun j hj => by have := h3 j hj; simpa using this) h2
      rw [h] at this
      exact absurd this.symm h2
  · obtain ⟨i, hi, rfl⟩ := List.getElem_of_mem hw
    have := (hall i hi).1
    rwa [List.getD_eq_getElem?_getD, List.getElem?_eq_getElem hi] at this
set_option maxRecDepth 100000 in
set_option maxHeartbeats 4000000 in
theorem simplify10_ok (w : World) (vr : Value) (n : Nat) (rels : List (List Int)) (steps : Nat) (hR : Tab w vr rels) (he : presE n rels = 0) (hst : steps ≤ 1000) : Calls Tryz.prog 18 #[.agg #[.int .i64 (n : Int), vr], .int .i64 (steps : Int)] w (SimpPost n rels steps w) := by
  obtain ⟨Ar, cr, rfl⟩ := Tab.form hR
  have H26 : Hid (∀ W, Tab W (.slice Ar rels.length cr) rels → Calls Tryz.prog 23 #[.agg #[.int .i64 (n : Int), .slice Ar rels.length cr]] W (CleanPost (n : Int) rels W)) := Lib.hid fun W h => clean26_ok W _ (n : Int) rels h he
  obtain ⟨gn, hgn, hg1, hg2, hln, hall⟩ := presE_good he
  obtain rfl : n = gn := by omega
  clear hgn
  have HV : Hid (Vld n rels) := Lib.hid (vld_of he)
  have HBN := Lib.hid (ElBox.new w n Ar cr rels.length)
  have HRR := Lib.hid hR
  have hs0 : (0 : Int) ≤ (steps : Int) := Int.natCast_nonneg _
  have hs1 : (steps : Int) ≤ 1000 := by omega
  have hd1 : decide ((steps : Int) < 0) = false := decide_eq_false (by omega)
  have hd2 : decide ((1000 : Int) < (steps : Int)) = false := decide_eq_false (by omega)
  have hn0 : (0 : Int) ≤ (n : Int) := Int.natCast_nonneg _
  have hn1 : (n : Int) ≤ 16 := by omega
  unfold CleanPost at H26
  clear hR he hall
  go_enter Tryz.func18, Tryz.ntmps18
  go_wp2_with ((with_reducible refine wpList_sel 4 ?_); refine wpList_val rfl (r_alloc40 rfl) ?_)
  generalize hw0 : (w.alloc (.cells #[.int .i64 (n : Int), .slice Ar rels.length cr] 24)).alloc (.cells zero40 24) = w0 at *
  have HBX := Lib.hid fun W (hb : Below w0.heap.size w0 W) => HBN.out.at_ hb
  have HB0 := Lib.hid HBN.out.below
  have HBP := Lib.hid HBN.out.arg
  have HZ0 := Lib.hid HBN.out.size
  have HC := Lib.hid (H26.out w0 (kept_tab.below HRR.out HB0.out))
  clear hw0 HRR H26
  generalize hcl : cleanL rels = cl at *
  go_upto_region 6 with (first
    | ((with_reducible refine wpList_sel 13 ?_); refine wpList_val rfl (r_loadAt 24 (.tmp 2) _ _ rfl rfl (load40 HBP.out)) ?_)
    | (go_at_call 23; (refine HC.out.mono ?_); rintro e w2 ⟨A, c, F, rfl, h2⟩
       have H2 := Lib.hid h2
       obtain ⟨-, x1, x2⟩ := HBX.out _ h2.below
       have HX1 := Lib.hid x1
       have HX2 := Lib.hid x2
       have HSR : Hid (∀ x y, (w2.setCell ⟨w.heap.size + 1, 0, none⟩ x).setCell ⟨w.heap.size + 1, 1, none⟩ y = w2.setRow (w.heap.size + 1) #[x, y]) := Lib.hid fun x y => two_set x2
       obtain ⟨z1, z2, z3, z4⟩ := two_facts x2 (.int .i64 (n : Int))
       clear h2 x1 x2))
  obtain ⟨w3, hw3⟩ : ∃ w3, w3 = (w2.setCell ⟨w.heap.size + 1, 0, none⟩ (.int .i64 (n : Int))).setCell ⟨w.heap.size + 1, 1, none⟩ (.slice A cl.length c) := ⟨_, rfl⟩
  rw [← hw3]
  have hw3r : w3 = w2.setRow (w.heap.size + 1) #[.int .i64 (n : Int), .slice A cl.length c] := by rw [hw3, HSR.out]
  have hr3 : w3.heap[w.heap.size + 1]? = some (.cells #[.int .i64 (n : Int), .slice A cl.length c] 24 (0, 0)) := by rw [hw3r]; exact setRow_heap _ _ _ _ _ _ HX2.out
  have ha3 : w3.heap[w.heap.size]? = some (.cells #[.int .i64 (n : Int), .slice Ar rels.length cr] 24 (0, 0)) := by rw [hw3r]; exact (setRow_other _ _ _ _ (by omega)).trans HX1.out
  have hO3 : OutSt 36 F w w3 (.slice A cl.length c) cl := by rw [hw3r]; exact (OutSt.base HB0.out H2.out).setRow HX2.out (Nat.le_succ _)
  obtain ⟨y1, y2⟩ := cell_of2 hr3
  have HR3 := Lib.hid hr3
  have HA3 := Lib.hid ha3
  have HO3 := Lib.hid hO3
  have hz3 : w.heap.size + 1 < w3.heap.size := (Array.getElem?_eq_some_iff.1 hr3).1
  have HZ3 := Lib.hid hz3
  have HLW : Hid (∃ G, G = F) := Lib.hid ⟨F, rfl⟩
  clear hw3 hw3r hr3 ha3 hO3 HX1 HX2 H2 HSR z1 z2 z3 z4 HC hz3
  go_wp2_with ((with_reducible refine wpList_sel 29 ?_); refine wpList_val rfl (r_build65 (.tmp 28) (n : Int) A cl.length c rfl rfl) ?_)
  obtain ⟨w4, hw4⟩ : ∃ w4, w4 = (w3.alloc (.cells #[.int .i64 (n : Int), .slice A cl.length c, .slice none 0 0, .slice none 0 0, .int .i64 0] 68)).alloc (.cells #[.pointer (some ⟨w3.heap.size, 0, none⟩)] 66) := ⟨_, rfl⟩
  rw [← hw4]
  have hb34 : Below w3.heap.size w3 w4 := by rw [hw4]; exact ((Below.refl _ _).alloc (Nat.le_refl _) _).alloc (by simp) _
  have hx4 : w4.heap[w3.heap.size]? = some (.cells #[.int .i64 (n : Int), .slice A cl.length c, .slice none 0 0, .slice none 0 0, .int .i64 0] 68 (0, 0)) := by rw [hw4]; exact (Below.heap_alloc _ _ _ (by simp)).trans (heap_alloc_new w3 _)
  have hp4 : w4.heap[w3.heap.size + 1]? = some (.cells #[.pointer (some ⟨w3.heap.size, 0, none⟩)] 66 (0, 0)) := by
    rw [hw4]
    have := heap_alloc_new (w3.alloc (.cells #[.int .i64 (n : Int), .slice A cl.length c, .slice none 0 0, .slice none 0 0, .int .i64 0] 68)) (.cells #[.pointer (some ⟨w3.heap.size, 0, none⟩)] 66)
    rwa [World.size_alloc] at this
  have hz4 : w4.heap.size = w3.heap.size + 2 := by rw [hw4]; simp
  have HX4 := Lib.hid hx4
  have HP4 := Lib.hid hp4
  have HZ4 := Lib.hid hz4
  have HA4 := Lib.hid ((hb34.block _ (Array.getElem?_eq_some_iff.1 HA3.out).1).trans HA3.out)
  have HR4 := Lib.hid ((hb34.block _ (Array.getElem?_eq_some_iff.1 HR3.out).1).trans HR3.out)
  have HO4 := Lib.hid (HO3.out.below' hb34)
  have HXB : Hid (w.heap.size + 1 < w3.heap.size) := HZ3
  have hpc4 : w4.cell? ⟨w.heap.size, 0, none⟩ = some (.int .i64 (n : Int)) := by rw [cell_of_row _ _ _ _ _ _ HA4.out]; rfl
  clear hw4 hb34 hx4 hp4 hz4 y1 y2 HO3 HR3 HA3 HZ3
  generalize w3.heap.size = xb at *
  go_loopw [10] (fun z wr => ∃ k : Nat, k ≤ n ∧ z = .int .i64 ((k : Int) + 1) ∧ Hid (∃ F' vi vb, BelX (fun q => q = xb) w4 wr ∧ wr.heap[xb]? = some (.cells #[.int .i64 (n : Int), .slice A cl.length c, vi, vb, .int .i64 0] 68 (0, 0)) ∧ LS w4.heap.size F' wr vi vb (rowsN k) (numsN k))) (fun z _ => n + 1 - (intOf z).toNat)
  case atStart => exact ⟨0, Nat.zero_le _, rfl, Lib.hid ⟨_, _, _, BelX.of_below (Below.refl _ _), HX4.out, LS.nil _ _⟩⟩
  case round =>
    clear hpc4
    obtain ⟨k, hk, rfl, hSt⟩ := hrel
    obtain ⟨F', vi, vb, hB4, hbx, hls⟩ := hSt.out
    clear hSt
    have hk0 : (0 : Int) ≤ (k : Int) := Int.natCast_nonneg _
    have hpc : wr.cell? ⟨w.heap.size, 0, none⟩ = some (.int .i64 (n : Int)) := by
      have h := (hB4.block _ (Array.getElem?_eq_some_iff.1 HA4.out).1 (by have := HXB.out; omega)).trans HA4.out
      rw [cell_of_row _ _ _ _ _ _ h]; rfl
    have hpp : wr.cell? ⟨xb + 1, 0, none⟩ = some (.pointer (some ⟨xb, 0, none⟩)) := by
      have h := (hB4.block _ (Array.getElem?_eq_some_iff.1 HP4.out).1 (by omega)).trans HP4.out
      rw [cell_of_row _ _ _ _ _ _ h]; rfl
    have HB4 := Lib.hid hB4
    have HBX4 := Lib.hid hbx
    have HLS := Lib.hid hls
    obtain ⟨Ai, ci, rfl⟩ := hls.out.form
    obtain ⟨Ab, cb, rfl⟩ := owns_form hls.row
    by_cases hlt : k < n
    · have hlt' : (k : Int) < (n : Int) := by omega
      have hle' : (k : Int) + 1 ≤ (n : Int) := by omega
      have hkd : decide ((k : Int) + 1 ≤ (n : Int)) = true := decide_eq_true hle'
      clear hB4 hbx hls
      go_wp2_with fail
      have hkz : IntKind.i64.wrap ((k : Int) + 1) = (k : Int) + 1 := by simp [IntKind.wrap, IntKind.bits, IntKind.signed]; omega
      have HPX : Hid (∀ W, BelX (fun q => q = xb ∨ (Value.slice Ai (rowsN k).length ci).ownBlock = some q ∨ (Value.slice Ab (numsN k).length cb).ownBlock = some q) wr W → W.cell? ⟨xb + 1, 0, none⟩ = some (.pointer (some ⟨xb, 0, none⟩))) := Lib.hid fun W hW => by
        have h := (HB4.out.block _ (Array.getElem?_eq_some_iff.1 HP4.out).1 (by omega)).trans HP4.out
        have h2 := (hW.block _ (Array.getElem?_eq_some_iff.1 h).1 (fun hx => by
          rcases hx with hx | hx | hx
          · omega
          · obtain ⟨h9, -⟩ := HLS.out.out.block _ hx
            have := HZ4.out
            omega
          · obtain ⟨h9, -⟩ := owns_block HLS.out.row _ hx
            have := HZ4.out
            omega)).trans h
        rw [cell_of_row _ _ _ _ _ _ h2]; rfl
      have HGI : Hid (∀ r, (Value.slice Ai (rowsN k).length ci).ownBlock = some r → r < wr.heap.size ∧ r ≠ xb) := Lib.hid fun r hr => by
        obtain ⟨h1, C, hC⟩ := HLS.out.out.block r hr
        exact ⟨(Array.getElem?_eq_some_iff.1 hC).1, ne_type hC HBX4.out (by decide)⟩
      have HGB : Hid (∀ r, (Value.slice Ab (numsN k).length cb).ownBlock = some r → r < wr.heap.size ∧ r ≠ xb) := Lib.hid fun r hr => by
        obtain ⟨h1, C, hC⟩ := owns_block HLS.out.row r hr
        exact ⟨(Array.getElem?_eq_some_iff.1 hC).1, ne_type hC HBX4.out (by decide)⟩
      have HXW : Hid (xb < wr.heap.size) := Lib.hid (Array.getElem?_eq_some_iff.1 HBX4.out).1
      have HBW : Hid (w4.heap.size ≤ wr.heap.size) := Lib.hid HB4.out.size
      clear hpc hpp
      refine (wpIn_wide (n := 3)).1 ?_
      refine wpIn_region_act (by kernel_rfl) 23 rfl (fun i => if i < 19 then (if i < 10 then some (37 + i) else if i < 17 then some (37 + i) else some (37 + i)) else if i = 19 then none else if i < 22 then some (36 + i) else none) (lex_of (by kernel_rfl))
        (fun ls a W => BelX (fun q => q = xb ∨ (Value.slice Ai (rowsN k).length ci).ownBlock = some q ∨ (Value.slice Ab (numsN k).length cb).ownBlock = some q) wr W ∧
          (ls 9 = false → LS w4.heap.size F' W (.slice Ai (rowsN k).length ci) (.slice Ab (numsN k).length cb) (rowsN k) (numsN k)) ∧
          (ls 9 = true → ls 16 = false → ∃ F9, LS w4.heap.size F9 W (slotv a (some 46)) (.slice Ab (numsN k).length cb) (rowsN (k + 1)) (numsN k)) ∧
          (ls 16 = true → ∃ F9, LS w4.heap.size F9 W (slotv a (some 46)) (slotv a (some 53)) (rowsN (k + 1)) (numsN (k + 1))) ∧
          W.heap[xb]? = some (.cells #[.int .i64 (n : Int), .slice A cl.length c, if ls 19 = true then slotv a (some 46) else .slice Ai (rowsN k).length ci, if ls 22 = true then slotv a (some 53) else .slice Ab (numsN k).length cb, .int .i64 0] 68 (0, 0)))
        (fun i v W => (([.eq (.pointer (some ⟨xb, 0, none⟩)), .eq (.pointer (some ⟨xb, 0, none⟩)), .eq (.pointer (some ⟨xb, 0, none⟩)), .eq (.pointer (some ⟨xb, 0, none⟩)), .eq (.pointer (some ⟨xb, 2, none⟩)), .eq (.slice Ai (rowsN k).length ci), .eq (.int .i64 ((k : Int) + 1)), .word, .wordl, .form (k + 1), .eq (.pointer (some ⟨xb, 0, none⟩)), .eq (.pointer (some ⟨xb, 0, none⟩)), .eq (.pointer (some ⟨xb, 3, none⟩)), .eq (.slice Ab (numsN k).length cb), .eq (.int .i64 ((k : Int) + 1)), .word, .form (k + 1), .eq (.pointer (some ⟨xb, 0, none⟩)), .eq (.pointer (some ⟨xb, 2, none⟩)), .eq undef, .eq (.pointer (some ⟨xb, 0, none⟩)), .eq (.pointer (some ⟨xb, 3, none⟩)), .eq undef] : List SlG).getD i (.eq undef)).holds wr.heap.size ((k : Int) + 1) v W)
        (fun _ w1 w2 => BelX (fun q => q < wr.heap.size) w1 w2) (dm_inj (by kernel_rfl)) (fun i j v w1 w2 _ _ _ h => SlG.keep h) (dm_lt (n := 89) (by kernel_rfl)) ⟨BelX.of_below (Below.refl wr.heap.size wr).drew, fun _ => HLS.out.below (Below.refl _ _).drew, fun h => by simp at h, fun h => by simp at h, HBX4.out⟩ ?_ ?_
      · intro ls q o a w6 hq ho hS hls hcl hP hpre
        obtain ⟨hS1, hS2, hS3, hS4, hS5⟩ := hS
        have hcases : q = 0 ∨ q = 1 ∨ q = 2 ∨ q = 3 ∨ q = 4 ∨ q = 5 ∨ q = 6 ∨ q = 7 ∨ q = 8 ∨ q = 9 ∨ q = 10 ∨ q = 11 ∨ q = 12 ∨ q = 13 ∨ q = 14 ∨ q = 15 ∨ q = 16 ∨ q = 17 ∨ q = 18 ∨ q = 19 ∨ q = 20 ∨ q = 21 ∨ q = 22 := by
          have : q < 23 := hq
          omega
        have hz6 : wr.heap.size ≤ w6.heap.size := hS1.size
        have hasz : a.tmps.size = 89 := hP.size
        have hkp : ∀ (q t : Nat) (v : Value) (w7 : World), q ≠ 9 → q ≠ 16 → q ≠ 19 → q ≠ 22 → t ≠ 46 → t ≠ 53 → Below w6.heap.size w6 w7 →
            BelX (fun q => q = xb ∨ (Value.slice Ai (rowsN k).length ci).ownBlock = some q ∨ (Value.slice Ab (numsN k).length cb).ownBlock = some q) wr w7 ∧
            ((fun j => if q = j then true else ls j) 9 = false → LS w4.heap.size F' w7 (.slice Ai (rowsN k).length ci) (.slice Ab (numsN k).length cb) (rowsN k) (numsN k)) ∧
            ((fun j => if q = j then true else ls j) 9 = true → (fun j => if q = j then true else ls j) 16 = false → ∃ F9, LS w4.heap.size F9 w7 (slotv (a.put (some t) v) (some 46)) (.slice Ab (numsN k).length cb) (rowsN (k + 1)) (numsN k)) ∧
            ((fun j => if q = j then true else ls j) 16 = true → ∃ F9, LS w4.heap.size F9 w7 (slotv (a.put (some t) v) (some 46)) (slotv (a.put (some t) v) (some 53)) (rowsN (k + 1)) (numsN (k + 1))) ∧
            w7.heap[xb]? = some (.cells #[.int .i64 (n : Int), .slice A cl.length c, if (fun j => if q = j then true else ls j) 19 = true then slotv (a.put (some t) v) (some 46) else .slice Ai (rowsN k).length ci, if (fun j => if q = j then true else ls j) 22 = true then slotv (a.put (some t) v) (some 53) else .slice Ab (numsN k).length cb, .int .i64 0] 68 (0, 0)) := fun q t v w7 h1 h2 h3 h4 h5 h6 hb => by
          simp only [if_neg h1, if_neg h2, if_neg h3, if_neg h4, slotv_put_ne h5, slotv_put_ne h6]
          exact ⟨hS1.trans (BelX.of_below hb), fun h => (hS2 h).below hb, fun h h' => let ⟨F9, k9⟩ := hS3 h h'; ⟨F9, k9.below hb⟩, fun h => let ⟨F9, k9⟩ := hS4 h; ⟨F9, k9.below hb⟩, (hb.block _ (Array.getElem?_eq_some_iff.1 hS5).1).trans hS5⟩
        have hrf : BelX (fun q => q < wr.heap.size) w6 w6 := BelX.of_below (Below.refl _ _)
        have hal : ∀ o : Obj, Below w6.heap.size w6 (w6.alloc o) := fun o => (Below.refl _ _).alloc (Nat.le_refl _) _
        rcases hcases with rfl | rfl | rfl | rfl | rfl | rfl | rfl | rfl | rfl | rfl | rfl | rfl | rfl | rfl | rfl | rfl | rfl | rfl | rfl | rfl | rfl | rfl | rfl
        · obtain rfl := Option.some.inj ho
          exact wpOpIn_of rfl rfl (wpW_val (r_load1 66 agg63 (.tmp 9) ⟨xb + 1, 0, none⟩ rfl (hP.out 9 (dm_out (by kernel_rfl))) (HPX.out _ hS1)) ⟨_, rfl, hkp 0 37 _ _ (by decide) (by decide) (by decide) (by decide) (by decide) (by decide) (Below.refl _ _), hrf, (fun h => by simp at h), rfl⟩)
        · obtain rfl := Option.some.inj ho
          exact wpOpIn_of rfl rfl (wpW_val (r_load1 66 agg63 (.tmp 9) ⟨xb + 1, 0, none⟩ rfl (hP.out 9 (dm_out (by kernel_rfl))) (HPX.out _ hS1)) ⟨_, rfl, hkp 1 38 _ _ (by decide) (by decide) (by decide) (by decide) (by decide) (by decide) (Below.refl _ _), hrf, (fun h => by simp at h), rfl⟩)
        · obtain rfl := Option.some.inj ho
          exact wpOpIn_of rfl rfl (wpW_val (r_load1 66 agg63 (.tmp 9) ⟨xb + 1, 0, none⟩ rfl (hP.out 9 (dm_out (by kernel_rfl))) (HPX.out _ hS1)) ⟨_, rfl, hkp 2 39 _ _ (by decide) (by decide) (by decide) (by decide) (by decide) (by decide) (Below.refl _ _), hrf, (fun h => by simp at h), rfl⟩)
        · obtain rfl := Option.some.inj ho
          exact wpOpIn_of rfl rfl (wpW_val (r_nil (.tmp 39) _ rfl (hpre ⟨2, .data⟩ (by simp) rfl).2) ⟨_, rfl, hkp 3 40 _ _ (by decide) (by decide) (by decide) (by decide) (by decide) (by decide) (Below.refl _ _), hrf, (fun h => by simp at h), rfl⟩)
        · obtain rfl := Option.some.inj ho
          exact wpOpIn_of rfl rfl (wpW_val (r_fld (.tmp 40) _ rfl (hpre ⟨3, .data⟩ (by simp) rfl).2 (fld65_1 xb _)) ⟨_, rfl, hkp 4 41 _ _ (by decide) (by decide) (by decide) (by decide) (by decide) (by decide) (Below.refl _ _), hrf, (fun h => by simp at h), rfl⟩)
        · obtain rfl := Option.some.inj ho
          have h9 := not_yet hcl 9 rfl ⟨5, .data⟩ (by simp) rfl hls
          have h16 := not_yet hcl 16 rfl ⟨9, .chain⟩ (by simp) rfl h9
          have h19 := not_yet hcl 19 rfl ⟨9, .data⟩ (by simp) rfl h9
          have hc2 := (cells5 hS5).2.2.1
          rw [if_neg (by rw [h19]; simp)] at hc2
          exact wpOpIn_of rfl rfl (wpW_val (r_ld25 (.tmp 41) ⟨xb, 2, none⟩ rfl (hpre ⟨4, .data⟩ (by simp) rfl).2 hc2) ⟨_, rfl, hkp 5 42 _ _ (by decide) (by decide) (by decide) (by decide) (by decide) (by decide) (Below.refl _ _), hrf, (fun h => by simp at h), rfl⟩)
        · obtain rfl := Option.some.inj ho
          exact wpOpIn_of rfl rfl (wpW_val (r_move (.tmp 10) rfl (hP.out 10 (dm_out (by kernel_rfl)))) ⟨_, rfl, hkp 6 43 _ _ (by decide) (by decide) (by decide) (by decide) (by decide) (by decide) (Below.refl _ _), hrf, (fun h => by simp at h), rfl⟩)
        · obtain rfl := Option.some.inj ho
          exact wpOpIn_of rfl rfl (wpW_val (r_bs24_1 (.tmp 43) ((k : Int) + 1) rfl (hpre ⟨6, .data⟩ (by simp) rfl).2) ⟨_, rfl, hkp 7 44 _ _ (by decide) (by decide) (by decide) (by decide) (by decide) (by decide) (hal _), BelX.of_below (hal _), (fun h => by simp at h), w6.heap.size, rfl, hz6, heap_alloc_new w6 _⟩)
        · obtain rfl := Option.some.inj ho
          obtain ⟨b, e, h1, h2⟩ := (hpre ⟨7, .data⟩ (by simp) rfl).2
          exact wpOpIn_of rfl rfl (wpW_val (r_bs25_1 (.tmp 44) (some ⟨b, 0, none⟩) 1 1 rfl e) ⟨_, rfl, hkp 8 45 _ _ (by decide) (by decide) (by decide) (by decide) (by decide) (by decide) (hal _), BelX.of_below (hal _), (fun h => by simp at h), b, w6.heap.size, rfl, h1, hz6, ((hal _).block b (Array.getElem?_eq_some_iff.1 h2).1).trans h2, heap_alloc_new w6 _⟩)
        · obtain rfl := Option.some.inj ho
          obtain ⟨b, b', e, h1, h2, h3, h4⟩ := (hpre ⟨8, .data⟩ (by simp) rfl).2
          have h16 := not_yet hcl 16 rfl ⟨9, .chain⟩ (by simp) rfl hls
          have h19 := not_yet hcl 19 rfl ⟨9, .data⟩ (by simp) rfl hls
          have h22 := not_yet hcl 22 rfl ⟨16, .data⟩ (by simp) rfl h16
          obtain ⟨A', c', w7, hrun, hls7, hg7⟩ := (hS2 hls).pushRow (sl_one1 h4) h3 (by have := HBW.out; omega) (fun e => by have := (HGB.out _ e).1; omega) (by omega) (by rw [rowsN_len]; omega) (by have := HBW.out; omega)
          rw [← rowsN_succ] at hls7
          have hrun' : (Builtin.append_ #[22, 22] 22 #[.slice Ai (rowsN k).length ci, .slice (some ⟨b', 0, none⟩) 1 1]).run Tryz.prog w6 = .ok (.slice A' ((rowsN k).length + 1) c') w7 := hrun
          have hbx7 : w7.heap[xb]? = w6.heap[xb]? := hg7.block xb (Array.getElem?_eq_some_iff.1 hS5).1 fun e => (HGI.out _ e.symm).2 rfl
          exact wpOpIn_of rfl rfl (wpW_val (r_app (.tmp 42) (.tmp 45) 22 rfl (hpre ⟨5, .data⟩ (by simp) rfl).2 e hrun') ⟨_, rfl, ⟨hS1.trans (BelX.of_grown hg7 fun r hr => .inr (.inl hr)), fun h => by simp at h, fun _ _ => ⟨fun r => F' r ∨ r = b, by
              have h := hls7
              rw [← slotv_same (a := a) (t := 46) (v := .slice A' ((rowsN k).length + 1) c') (by rw [hasz]; decide)] at h
              exact h⟩, fun h => by simp [h16] at h, by
              rw [hbx7, hS5]
              simp [h19, h22]⟩, BelX.of_grown hg7 fun r hr => (HGI.out r hr).1, (fun h => by simp at h), A', c', by rw [rowsN_len]⟩)
        · obtain rfl := Option.some.inj ho
          exact wpOpIn_of rfl rfl (wpW_val (r_load1 66 agg63 (.tmp 9) ⟨xb + 1, 0, none⟩ rfl (hP.out 9 (dm_out (by kernel_rfl))) (HPX.out _ hS1)) ⟨_, rfl, hkp 10 47 _ _ (by decide) (by decide) (by decide) (by decide) (by decide) (by decide) (Below.refl _ _), hrf, (fun h => by simp at h), rfl⟩)
        · obtain rfl := Option.some.inj ho
          exact wpOpIn_of rfl rfl (wpW_val (r_nil (.tmp 47) _ rfl (hpre ⟨10, .data⟩ (by simp) rfl).2) ⟨_, rfl, hkp 11 48 _ _ (by decide) (by decide) (by decide) (by decide) (by decide) (by decide) (Below.refl _ _), hrf, (fun h => by simp at h), rfl⟩)
        · obtain rfl := Option.some.inj ho
          exact wpOpIn_of rfl rfl (wpW_val (r_fld (.tmp 48) _ rfl (hpre ⟨11, .data⟩ (by simp) rfl).2 (fld65_2 xb _)) ⟨_, rfl, hkp 12 49 _ _ (by decide) (by decide) (by decide) (by decide) (by decide) (by decide) (Below.refl _ _), hrf, (fun h => by simp at h), rfl⟩)
        · obtain rfl := Option.some.inj ho
          have h16 := not_yet hcl 16 rfl ⟨13, .data⟩ (by simp) rfl hls
          have h22 := not_yet hcl 22 rfl ⟨16, .data⟩ (by simp) rfl h16
          have hc3 := (cells5 hS5).2.2.2.1
          rw [if_neg (by rw [h22]; simp)] at hc3
          exact wpOpIn_of rfl rfl (wpW_val (r_load1 35 agg24 (.tmp 49) ⟨xb, 3, none⟩ rfl (hpre ⟨12, .data⟩ (by simp) rfl).2 hc3) ⟨_, rfl, hkp 13 50 _ _ (by decide) (by decide) (by decide) (by decide) (by decide) (by decide) (Below.refl _ _), hrf, (fun h => by simp at h), rfl⟩)
        · obtain rfl := Option.some.inj ho
          exact wpOpIn_of rfl rfl (wpW_val (r_move (.tmp 10) rfl (hP.out 10 (dm_out (by kernel_rfl)))) ⟨_, rfl, hkp 14 51 _ _ (by decide) (by decide) (by decide) (by decide) (by decide) (by decide) (Below.refl _ _), hrf, (fun h => by simp at h), rfl⟩)
        · obtain rfl := Option.some.inj ho
          exact wpOpIn_of rfl rfl (wpW_val (r_bs23_1 (.tmp 51) ((k : Int) + 1) rfl (hpre ⟨14, .data⟩ (by simp) rfl).2) ⟨_, rfl, hkp 15 52 _ _ (by decide) (by decide) (by decide) (by decide) (by decide) (by decide) (hal _), BelX.of_below (hal _), (fun h => by simp at h), w6.heap.size, rfl, hz6, heap_alloc_new w6 _⟩)
        · obtain rfl := Option.some.inj ho
          obtain ⟨b, e, h1, h2⟩ := (hpre ⟨15, .data⟩ (by simp) rfl).2
          have h9 := (hpre ⟨9, .chain⟩ (by simp) rfl).1
          have h19 := not_yet hcl 19 rfl ⟨16, .chain⟩ (by simp) rfl hls
          have h22 := not_yet hcl 22 rfl ⟨16, .data⟩ (by simp) rfl hls
          obtain ⟨F9, k9⟩ := hS3 h9 hls
          have hu : IntsAt w6 (.slice (some ⟨b, 0, none⟩) 1 1) [(k : Int) + 1] := ints_blk (xs := [(k : Int) + 1]) h2 (fun y hy => by rw [List.mem_singleton.1 hy]; omega) rfl (by omega)
          obtain ⟨A', c', w7, hrun, hls7, hg7⟩ := k9.pushNum hu (by rw [numsN_len]; omega) (by have := HBW.out; omega)
          rw [← numsN_succ] at hls7
          have hrun' : (Builtin.append_ #[35, 35] 35 #[.slice Ab (numsN k).length cb, .slice (some ⟨b, 0, none⟩) 1 1]).run Tryz.prog w6 = .ok (.slice A' ((numsN k).length + 1) c') w7 := hrun
          have hbx7 : w7.heap[xb]? = w6.heap[xb]? := hg7.block xb (Array.getElem?_eq_some_iff.1 hS5).1 fun e => (HGB.out _ e.symm).2 rfl
          exact wpOpIn_of rfl rfl (wpW_val (r_app (.tmp 50) (.tmp 52) 35 rfl (hpre ⟨13, .data⟩ (by simp) rfl).2 e hrun') ⟨_, rfl, ⟨hS1.trans (BelX.of_grown hg7 fun r hr => .inr (.inr hr)), fun h => by simp [h9] at h, fun _ h => by simp at h, fun _ => ⟨F9, by
              have h := hls7
              rw [← slotv_same (a := a) (t := 53) (v := .slice A' ((numsN k).length + 1) c') (by rw [hasz]; decide)] at h
              rw [← slotv_put_ne (a := a) (s := 53) (t := 46) (v := .slice A' ((numsN k).length + 1) c') (by decide)] at h
              exact h⟩, by
              rw [hbx7, hS5]
              simp [h19, h22]⟩, BelX.of_grown hg7 fun r hr => (HGB.out r hr).1, (fun h => by simp at h), A', c', by rw [numsN_len]⟩)
        · obtain rfl := Option.some.inj ho
          exact wpOpIn_of rfl rfl (wpW_val (r_nil (.tmp 37) _ rfl (hpre ⟨0, .data⟩ (by simp) rfl).2) ⟨_, rfl, hkp 17 54 _ _ (by decide) (by decide) (by decide) (by decide) (by decide) (by decide) (Below.refl _ _), hrf, (fun h => by simp at h), rfl⟩)
        · obtain rfl := Option.some.inj ho
          exact wpOpIn_of rfl rfl (wpW_val (r_fld (.tmp 54) _ rfl (hpre ⟨17, .data⟩ (by simp) rfl).2 (fld65_1 xb _)) ⟨_, rfl, hkp 18 55 _ _ (by decide) (by decide) (by decide) (by decide) (by decide) (by decide) (Below.refl _ _), hrf, (fun h => by simp at h), rfl⟩)
        · obtain rfl := Option.some.inj ho
          obtain ⟨A9, c9, e9⟩ := (hpre ⟨9, .data⟩ (by simp) rfl).2
          have e9' : a.eval (.tmp 46) = .slice A9 (k + 1) c9 := e9
          have h16 := (hpre ⟨16, .chain⟩ (by simp) rfl).1
          have h9 := (hpre ⟨9, .data⟩ (by simp) rfl).1
          have h22 := not_yet hcl 22 rfl ⟨19, .chain⟩ (by simp) rfl hls
          have hg7 : w6.grownBy (w6.setCell ⟨xb, 2, none⟩ (.slice A9 (k + 1) c9)) (some xb) := grown_setCell w6 xb 2 _
          have hf7 : w6.frozen? ⟨xb, 2, none⟩ = false := by simp [World.frozen?, hS5]
          obtain ⟨F9, k9⟩ := hS4 h16
          exact wpOpIn_of rfl rfl (wpW_skip (r_store1 22 (.tmp 55) (.tmp 46) ⟨xb, 2, none⟩ _ (.slice A9 (k + 1) c9) rfl (hpre ⟨18, .data⟩ (by simp) rfl).2 e9' rfl (cells5 hS5).2.2.1 hf7 (st25 _ _ _ _ _ (cells5 hS5).2.2.1 hf7)) ⟨undef, rfl, ⟨hS1.trans (BelX.of_grown hg7 fun r hr => by cases hr; exact .inl rfl), fun h => by simp [h9] at h, fun _ h => by simp [h16] at h, fun _ => ⟨F9, k9.box hS5 hg7⟩, by
              have h5 := heap_set5 (k := 2) (z := .slice A9 (k + 1) c9) hS5
              show (w6.setCell ⟨xb, 2, none⟩ (.slice A9 (k + 1) c9)).heap[xb]? = some (.cells #[.int .i64 (n : Int), .slice A cl.length c, slotv a (some 46), if ls 22 = true then slotv a (some 53) else .slice Ab (numsN k).length cb, .int .i64 0] 68 (0, 0))
              rw [show slotv a (some 46) = .slice A9 (k + 1) c9 from e9]
              simpa [h22] using h5⟩, BelX.of_grown hg7 fun r hr => by cases hr; exact HXW.out, (fun _ => rfl), rfl⟩)
        · obtain rfl := Option.some.inj ho
          exact wpOpIn_of rfl rfl (wpW_val (r_nil (.tmp 38) _ rfl (hpre ⟨1, .data⟩ (by simp) rfl).2) ⟨_, rfl, hkp 20 56 _ _ (by decide) (by decide) (by decide) (by decide) (by decide) (by decide) (Below.refl _ _), hrf, (fun h => by simp at h), rfl⟩)
        · obtain rfl := Option.some.inj ho
          exact wpOpIn_of rfl rfl (wpW_val (r_fld (.tmp 56) _ rfl (hpre ⟨20, .data⟩ (by simp) rfl).2 (fld65_2 xb _)) ⟨_, rfl, hkp 21 57 _ _ (by decide) (by decide) (by decide) (by decide) (by decide) (by decide) (Below.refl _ _), hrf, (fun h => by simp at h), rfl⟩)
        · obtain rfl := Option.some.inj ho
          obtain ⟨A9, c9, e9⟩ := (hpre ⟨16, .data⟩ (by simp) rfl).2
          have e9' : a.eval (.tmp 53) = .slice A9 (k + 1) c9 := e9
          have h16 := (hpre ⟨16, .data⟩ (by simp) rfl).1
          have h19 := (hpre ⟨19, .chain⟩ (by simp) rfl).1
          have hg7 : w6.grownBy (w6.setCell ⟨xb, 3, none⟩ (.slice A9 (k + 1) c9)) (some xb) := grown_setCell w6 xb 3 _
          have hf7 : w6.frozen? ⟨xb, 3, none⟩ = false := by simp [World.frozen?, hS5]
          obtain ⟨F9, k9⟩ := hS4 h16
          have h9 : ls 9 = true := by
            cases h : ls 9 with
            | true => rfl
            | false => have := not_yet hcl 16 rfl ⟨9, .chain⟩ (by simp) rfl h; rw [h16] at this; cases this
          exact wpOpIn_of rfl rfl (wpW_skip (r_store1 35 (.tmp 57) (.tmp 53) ⟨xb, 3, none⟩ _ (.slice A9 (k + 1) c9) rfl (hpre ⟨21, .data⟩ (by simp) rfl).2 e9' rfl (cells5 hS5).2.2.2.1 hf7 (st23 _ _ _ _ _ (cells5 hS5).2.2.2.1 hf7)) ⟨undef, rfl, ⟨hS1.trans (BelX.of_grown hg7 fun r hr => by cases hr; exact .inl rfl), fun h => by simp [h9] at h, fun _ h => by simp [h16] at h, fun _ => ⟨F9, k9.box hS5 hg7⟩, by
              have h5 := heap_set5 (k := 3) (z := .slice A9 (k + 1) c9) hS5
              show (w6.setCell ⟨xb, 3, none⟩ (.slice A9 (k + 1) c9)).heap[xb]? = some (.cells #[.int .i64 (n : Int), .slice A cl.length c, if ls 19 = true then slotv a (some 46) else .slice Ai (rowsN k).length ci, slotv a (some 53), .int .i64 0] 68 (0, 0))
              rw [show slotv a (some 53) = .slice A9 (k + 1) c9 from e9]
              simpa [h19] using h5⟩, BelX.of_grown hg7 fun r hr => by cases hr; exact HXW.out, (fun _ => rfl), rfl⟩)
      · intro ls a W6 hall hS hP hsl
        obtain ⟨hS1, -, -, hS4, hS5⟩ := hS
        obtain ⟨F9, k9⟩ := hS4 (hall 16 (by decide))
        rw [if_pos (hall 19 (by decide)), if_pos (hall 22 (by decide))] at hS5
        obtain ⟨vs, hvs, hfr⟩ := hP.frame 89 rfl
        have hB : BelX (fun q => q = xb) w4 W6 := by
          refine ⟨hS1.os.trans HB4.out.os, hS1.tape.trans HB4.out.tape, hS1.output.trans HB4.out.output, Nat.le_trans HB4.out.size hS1.size, fun q hq hx => ?_⟩
          refine (hS1.block q (Nat.lt_of_lt_of_le hq HB4.out.size) fun h => ?_).trans (HB4.out.block q hq hx)
          rcases h with h | h | h
          · exact hx h
          · have := (HLS.out.out.block _ h).1; omega
          · have := (owns_block HLS.out.row _ h).1; omega
        have HE : Hid (∃ F' vi vb, BelX (fun q => q = xb) w4 W6 ∧ W6.heap[xb]? = some (.cells #[.int .i64 (n : Int), .slice A cl.length c, vi, vb, .int .i64 0] 68 (0, 0)) ∧ LS w4.heap.size F' W6 vi vb (rowsN (k + 1)) (numsN (k + 1))) := Lib.hid ⟨F9, _, _, hB, hS5, k9⟩
        clear hsl hP hall hvs hS1 hS4 hS5 k9 hB
        subst hfr
        simp only [List.range, List.range.loop, List.map_cons, List.map_nil, List.any_cons, List.any_nil, Nat.reduceAdd, Nat.reduceBEq, Nat.reduceLT, Option.some_beq_some, Bool.or_false, if_true, if_false, List.getD_cons_zero, List.getD_cons_succ, Bool.false_or, Bool.or_true, Bool.true_or, Nat.reduceEqDiff]
        go_wp2_with fail
        go_roundw
        case rel => exact ⟨k + 1, by omega, by go_num, Lib.hid (let ⟨a, b, c, d, e, f⟩ := HE.out; ⟨d, a, b, c, e, f⟩)⟩
        case measure => simp [intOf]; omega
    · obtain rfl : n = k := by omega
      have hle' : ¬ (n : Int) + 1 ≤ (n : Int) := by omega
      have hkd : decide ((n : Int) + 1 ≤ (n : Int)) = false := decide_eq_false hle'
      have hz4 := HZ4.out
      have HCL : Hid (Cln n cl) := Lib.hid (by rw [← hcl]; exact HV.out.clean)
      have HST : Hid (StX w.heap.size xb (sp0 n cl) 0 wr A c Ai ci Ab cb) := Lib.hid (by
        have hlen1 : (sp0 n cl).into.length = (rowsN n).length := rfl
        refine ⟨HBX4.out, by have := HXB.out; omega, ?_, HLS.out.tabX HBX4.out, owns_base HLS.out.row (Nat.le_trans HO4.out.below.size (Nat.le_refl _))⟩
        have h1 : TabX (XB xb (.slice Ab (numsN n).length cb)) w4 (.slice A cl.length c) cl := TabX.new2 HO4.out fun k hk => by
          rcases hk with rfl | hk
          · refine ⟨fun hF => ?_, fun e => ?_⟩
            · obtain ⟨-, -, D, hD⟩ := HO4.out.fs _ hF
              exact (ne_type hD HX4.out (by decide)) rfl
            · obtain ⟨-, D, hD⟩ := HO4.out.out.block _ e
              exact (ne_type hD HX4.out (by decide)) rfl
          · have h9 := (owns_block HLS.out.row k hk).1
            refine ⟨fun hF => ?_, fun e => ?_⟩
            · have := (HO4.out.fs _ hF).2.1; omega
            · obtain ⟨-, D, hD⟩ := HO4.out.out.block _ e
              have := (Array.getElem?_eq_some_iff.1 hD).1; omega
        exact h1.keep (HB4.out.ag.mono fun k hk => .inl hk))
      have HPT : Hid (wr.heap[xb + 1]? = some (.cells #[.pointer (some ⟨xb, 0, none⟩)] 66 (0, 0))) := Lib.hid ((HB4.out.block _ (Array.getElem?_eq_some_iff.1 HP4.out).1 (by omega)).trans HP4.out)
      have HRS : Hid (wr.heap[w.heap.size + 1]? = some (.cells #[.int .i64 (n : Int), .slice A cl.length c] 24 (0, 0))) := Lib.hid ((HB4.out.block _ (Array.getElem?_eq_some_iff.1 HR4.out).1 (by have := HXB.out; omega)).trans HR4.out)
      have HBL : Hid (Below w.heap.size w wr) := Lib.hid (HO4.out.below.trans (HB4.out.below HO4.out.below.size fun k hk => by have := HXB.out; omega))
      clear hB4 hbx hls hz4
      go_upto_block 2 with fail
      obtain ⟨w5, hw5⟩ : ∃ w5, w5 = wr.alloc (.cells #[.func (.func 43) #[] #[], .func (.func 41) #[] #[]] 72) := ⟨_, rfl⟩
      rw [← hw5]
      have hb5 : Below wr.heap.size wr w5 := by rw [hw5]; exact (Below.refl _ _).alloc (Nat.le_refl _) _
      have hwy : w5.heap[wr.heap.size]? = some (.cells #[.func (.func 43) #[] #[], .func (.func 41) #[] #[]] 72 (0, 0)) := by rw [hw5]; exact heap_alloc_new wr _
      have HSIM : Hid (Sim w n rels steps steps xb wr.heap.size (sp0 n cl) w5 A c Ai ci Ab cb) := Lib.hid
        ⟨HST.out.below hb5, okay0 HCL.out, fun z hz => by
            obtain ⟨i, -, rfl⟩ := List.mem_map.1 hz
            simp, by unfold simpE; rw [hcl], (hb5.block _ (Array.getElem?_eq_some_iff.1 HPT.out).1).trans HPT.out, hwy, ⟨_, rfl, (hb5.block _ (Array.getElem?_eq_some_iff.1 HRS.out).1).trans HRS.out, _, _, rfl⟩, HBL.out.trans (hb5.mono HBL.out.size)⟩
      clear hpc hpp hw5 hb5 hwy HST HPT HRS HBL HCL HLS HBX4 HB4 hcl
      generalize wr.heap.size = bw at *
      go_cut [] from 60 (fun wx => Hid (∃ s A a B b C c, Sim w n rels steps 0 xb bw s wx A a B b C c))
      case first =>
        go_wp2_with fail
        go_loopw [5, 6, 7, 60] (fun z5 z6 z7 z wr => ∃ j : Nat, j ≤ steps ∧ z5 = .slice none 0 0 ∧ z6 = .slice none 0 0 ∧ z7 = .int .i64 0 ∧ z = .int .i64 j ∧ Hid (∃ s A a B b C c, Sim w n rels steps (steps - j) xb bw s wr A a B b C c)) (fun _ _ _ z _ => steps - (intOf z).toNat)
        case atStart => exact ⟨0, Nat.zero_le _, rfl, rfl, rfl, rfl, Lib.hid ⟨_, _, _, _, _, _, _, HSIM.out⟩⟩
        case round =>
          clear HSIM
          obtain ⟨j, hj, rfl, rfl, rfl, rfl, HJ⟩ := hrel
          have hj0 : (0 : Int) ≤ (j : Int) := Int.natCast_nonneg _
          by_cases hlt : j < steps
          · have hlt' : (j : Int) < (steps : Int) := by omega
            obtain ⟨s, A2, a2, B2, b2, C2, c2, hsm⟩ := HJ.out
            have HSM := Lib.hid hsm
            have HC := Lib.hid (step30_any w.heap.size xb n (xb + 1) bw s wr A2 a2 B2 b2 C2 c2 hsm.st hsm.ok hg2 hsm.il hsm.below.size hsm.ptr hsm.ways)
            obtain ⟨m, hm⟩ : ∃ m, steps - j = m + 1 := ⟨steps - j - 1, by omega⟩
            have HM := Lib.hid hm
            clear hsm hm
            have HPC : Hid (wr.cell? ⟨xb + 1, 0, none⟩ = some (.pointer (some ⟨xb, 0, none⟩))) := Lib.hid (by rw [cell_of_row _ _ _ _ _ _ HSM.out.ptr]; rfl)
            rw [HM.out] at HSM
            unfold StepP at HC
            cases hel : s.elim with
            | none =>
              cases hsh : shortF s.rels with
              | none =>
                rw [hel, hsh] at HC
                have HEQ : Hid (simpTo (m + 1) s = .inl s) := Lib.hid (by rw [simpTo, hel]; simp only [hsh])
                clear hel hsh
                go_wp2_with (go_at_call 44; (refine HC.out.mono ?_); rintro e w1 ⟨t, rfl, rfl, hb⟩
                             have HB := Lib.hid hb
                             clear hb)
                go_meet
                obtain ⟨cs, h1, h2, x, y, h3⟩ := HSM.out.res
                have hk : ∀ {k : Nat} {o : Obj}, wr.heap[k]? = some o → w1.heap[k]? = some o := fun ho => (HB.out.block _ (Array.getElem?_eq_some_iff.1 ho).1).trans ho
                exact Lib.hid ⟨s, A2, a2, B2, b2, C2, c2, HSM.out.st.below HB.out, HSM.out.ok, HSM.out.il, by
                  have := HSM.out.eq
                  rw [HEQ.out] at this
                  exact this, hk HSM.out.ptr, hk HSM.out.ways, ⟨cs, h1, hk h2, x, y, h3⟩, HSM.out.below.trans (HB.out.mono HSM.out.below.size)⟩
              | some l =>
                rw [hel, hsh] at HC
                have HEQ : Hid (simpTo (m + 1) s = simpTo m { s with rels := l }) := Lib.hid (by rw [simpTo, hel]; simp only [hsh])
                have HOK : Hid (Okay n { s with rels := l }) := Lib.hid (HSM.out.ok.step (.short hsh))
                clear hel hsh
                go_wp2_with (go_at_call 44; (refine HC.out.mono ?_); rintro e w1 ⟨t, rfl, rfl, ⟨A3, a3, B3, b3, h3⟩, hb⟩
                             have HSM2 := Lib.hid (HSM.out.step h3 hb HOK.out HSM.out.il HEQ.out)
                             obtain ⟨-, -, -, -, q4⟩ := cells5 HSM2.out.st.box
                             have q5 : w1.cell? ⟨xb + 1, 0, none⟩ = some (.pointer (some ⟨xb, 0, none⟩)) := by rw [cell_of_row _ _ _ _ _ _ HSM2.out.ptr]; rfl
                             clear hb h3)
                go_roundw
                case rel => exact ⟨j + 1, by omega, rfl, rfl, rfl, by go_num, Lib.hid ⟨_, _, _, _, _, _, _, by rw [show steps - (j + 1) = m by have := HM.out; omega]; exact HSM2.out⟩⟩
                case measure => simp [intOf]; omega
            | some o =>
              cases o with
              | inl s' =>
                rw [hel] at HC
                have HEQ : Hid (simpTo (m + 1) s = simpTo m s') := Lib.hid (by rw [simpTo, hel])
                have HOK : Hid (Okay n s') := Lib.hid (HSM.out.ok.step (elim_step hel))
                have HIL := Lib.hid (elim_il hel)
                clear hel
                go_wp2_with (go_at_call 44; (refine HC.out.mono ?_); rintro e w1 ⟨t, rfl, rfl, ⟨A3, a3, B3, b3, h3⟩, hb⟩
                             have HSM2 := Lib.hid (HSM.out.step h3 hb HOK.out HIL.out HEQ.out)
                             obtain ⟨-, -, -, -, q4⟩ := cells5 HSM2.out.st.box
                             have q5 : w1.cell? ⟨xb + 1, 0, none⟩ = some (.pointer (some ⟨xb, 0, none⟩)) := by rw [cell_of_row _ _ _ _ _ _ HSM2.out.ptr]; rfl
                             clear hb h3)
                go_roundw
                case rel => exact ⟨j + 1, by omega, rfl, rfl, rfl, by go_num, Lib.hid ⟨_, _, _, _, _, _, _, by rw [show steps - (j + 1) = m by have := HM.out; omega]; exact HSM2.out⟩⟩
                case measure => simp [intOf]; omega
              | inr u =>
                rw [hel] at HC
                have HEQ : Hid (simpE n rels steps = .inr u) := Lib.hid (by rw [← HSM.out.eq, simpTo, hel])
                clear hel
                go_upto_region 16 with
                  (go_at_call 44; (refine HC.out.mono ?_); rintro e w1 ⟨t, rfl, rfl, q4, hb⟩
                   have HER : Hid (ErrS w xb w1) := Lib.hid ⟨sim_other HSM.out.st hb HSM.out.ptr (by decide) (by decide), q4, (by obtain ⟨cs, h1, h2, x, y, h3⟩ := HSM.out.res; exact ⟨cs, h1, sim_other HSM.out.st hb h2 (by decide) (by decide), x, y, h3⟩), HSM.out.below.trans (sim_below HSM.out.st hb HSM.out.below.size), HXB.out⟩
                   have q5 : w1.cell? ⟨xb + 1, 0, none⟩ = some (.pointer (some ⟨xb, 0, none⟩)) := by rw [cell_of_row _ _ _ _ _ _ HER.out.ptr]; rfl
                   clear hb)
                obtain ⟨cs, hcs, hres, xx, yy, hxy⟩ := HER.out.res
                have hne := HXB.out
                have HXL : Hid (xb < w1.heap.size) := Lib.hid (World.block_lt_of_cell? w1 ⟨xb, 4, none⟩ q4)
                have HC16 : Hid (∀ W', w1.grownBy W' (some (w.heap.size + 1)) → W'.cell? ⟨xb + 1, 0, none⟩ = some (.pointer (some ⟨xb, 0, none⟩)) ∧ W'.cell? ⟨xb, 4, none⟩ = some (.int .i64 4)) := Lib.hid fun W' hg => by
                  have h1 := (hg.block _ (Array.getElem?_eq_some_iff.1 HER.out.ptr).1 (by simp; omega)).trans HER.out.ptr
                  refine ⟨by rw [cell_of_row _ _ _ _ _ _ h1]; rfl, ?_⟩
                  exact (World.cell?_of_block (hg.block xb HXL.out (by simp; omega))).trans HER.out.e
                have HRS := Lib.hid hres
                have HCS := Lib.hid hcs
                clear hres q4 q5
                refine (wpIn_wide (n := 3)).1 ?_
                refine wpIn_region_all (by kernel_rfl) 9 rfl (fun i => if i < 5 then some (71 + i) else if i = 5 then none else some (i - 1)) (lex_of (by kernel_rfl))
                  (fun ls W' => w1.grownBy W' (some (w.heap.size + 1)) ∧ (if ls 5 = true then W'.heap[w.heap.size + 1]? = some (.cells zero40 24 (0, 0)) else W'.heap[w.heap.size + 1]? = some (.cells cs 24 (0, 0))))
                  (fun i v _ => v = [Value.agg zero40, .pointer (some ⟨xb, 0, none⟩), .pointer (some ⟨xb, 0, none⟩), .pointer (some ⟨xb, 4, none⟩), .int .i64 4, undef, .slice none 0 0, .slice none 0 0, .int .i64 4].getD i undef)
                  (fun _ _ _ => True) (dm_inj (by kernel_rfl)) (fun _ _ _ _ _ _ _ _ _ h => h) (dm_lt (n := 89) (by kernel_rfl)) ⟨below_grown (Below.refl w1.heap.size w1).drew, HRS.out⟩ ?_ ?_
                · intro ls q o a w6 hq ho hS hls hcl hP hpre
                  obtain ⟨hS1, hS2⟩ := hS
                  have hcases : q = 0 ∨ q = 1 ∨ q = 2 ∨ q = 3 ∨ q = 4 ∨ q = 5 ∨ q = 6 ∨ q = 7 ∨ q = 8 := by
                    have : q < 9 := hq
                    omega
                  have hkp : ∀ q, q ≠ 5 → (w1.grownBy w6 (some (w.heap.size + 1)) ∧ (if (fun j => if q = j then true else ls j) 5 = true then w6.heap[w.heap.size + 1]? = some (.cells zero40 24 (0, 0)) else w6.heap[w.heap.size + 1]? = some (.cells cs 24 (0, 0)))) := fun q h1 => by
                    simp only [if_neg h1]
                    exact ⟨hS1, hS2⟩
                  rcases hcases with rfl | rfl | rfl | rfl | rfl | rfl | rfl | rfl | rfl
                  · obtain rfl := Option.some.inj ho
                    exact wpOpIn_of rfl rfl (wpW_val (r_build40 rfl) ⟨_, rfl, hkp 0 (by decide), trivial, (fun h => by simp at h), rfl⟩)
                  · obtain rfl := Option.some.inj ho
                    exact wpOpIn_of rfl rfl (wpW_val (r_load1 66 agg63 (.tmp 9) ⟨xb + 1, 0, none⟩ rfl (hP.out 9 (dm_out (by kernel_rfl))) (HC16.out _ hS1).1) ⟨_, rfl, hkp 1 (by decide), trivial, (fun h => by simp at h), rfl⟩)
                  · obtain rfl := Option.some.inj ho
                    exact wpOpIn_of rfl rfl (wpW_val (r_nil (.tmp 72) _ rfl (hpre ⟨1, .data⟩ (by simp) rfl).2) ⟨_, rfl, hkp 2 (by decide), trivial, (fun h => by simp at h), rfl⟩)
                  · obtain rfl := Option.some.inj ho
                    exact wpOpIn_of rfl rfl (wpW_val (r_fld (.tmp 73) _ rfl (hpre ⟨2, .data⟩ (by simp) rfl).2 (fld65_3 xb _)) ⟨_, rfl, hkp 3 (by decide), trivial, (fun h => by simp at h), rfl⟩)
                  · obtain rfl := Option.some.inj ho
                    exact wpOpIn_of rfl rfl (wpW_val (r_load1 27 agg28w (.tmp 74) ⟨xb, 4, none⟩ rfl (hpre ⟨3, .data⟩ (by simp) rfl).2 (HC16.out _ hS1).2) ⟨_, rfl, hkp 4 (by decide), trivial, (fun h => by simp at h), rfl⟩)
                  · obtain rfl := Option.some.inj ho
                    rw [if_neg (by rw [hls]; simp)] at hS2
                    have hg6 : w6.grownBy (w6.setRow (w.heap.size + 1) zero40) (some (w.heap.size + 1)) := ⟨rfl, rfl, rfl, by rw [World.setRow]; simp, fun k _ hne => setRow_other _ _ k _ (fun e => hne (by rw [e]))⟩
                    exact wpOpIn_of rfl rfl (wpW_skip (r_store40 (.tmp 4) (.tmp 71) rfl (w.heap.size + 1) cs zero40 (hP.out 4 (dm_out (by kernel_rfl))) (hpre ⟨0, .data⟩ (by simp) rfl).2 hS2 rfl HCS.out zero40_one) ⟨undef, rfl, ⟨grown_trans hS1 hg6, by
                      rw [if_pos (by simp)]
                      exact setRow_heap _ _ _ _ _ _ hS2⟩, trivial, (fun _ => rfl), rfl⟩)
                  · obtain rfl := Option.some.inj ho
                    exact wpOpIn_of rfl rfl (wpW_val (r_assign (.const (.slice none 0 0)) rfl rfl) ⟨_, rfl, hkp 6 (by decide), trivial, (fun h => by simp at h), rfl⟩)
                  · obtain rfl := Option.some.inj ho
                    exact wpOpIn_of rfl rfl (wpW_val (r_assign (.const (.slice none 0 0)) rfl rfl) ⟨_, rfl, hkp 7 (by decide), trivial, (fun h => by simp at h), rfl⟩)
                  · obtain rfl := Option.some.inj ho
                    exact wpOpIn_of rfl rfl (wpW_val (r_assign (.tmp 75) rfl rfl) ⟨_, rfl, hkp 8 (by decide), trivial, (fun h => by simp at h), (hpre ⟨4, .data⟩ (by simp) rfl).2⟩)
                · intro ls a W6 hall hS hP hsl
                  obtain ⟨hS1, hS2⟩ := hS
                  rw [if_pos (hall 5 (by decide))] at hS2
                  have e5 := hsl 6 (by decide)
                  have e6 := hsl 7 (by decide)
                  have e7 := hsl 8 (by decide)
                  obtain ⟨vs, hvs, hfr⟩ := hP.frame 89 rfl
                  have f5 : vs 5 = .slice none 0 0 := (hvs 5).trans e5
                  have f6 : vs 6 = .slice none 0 0 := (hvs 6).trans e6
                  have f7 : vs 7 = .int .i64 4 := (hvs 7).trans e7
                  have H1 := Lib.hid hS1
                  have H2 := Lib.hid hS2
                  clear hsl hP hall hvs hS1 hS2 e5 e6 e7
                  subst hfr
                  simp only [List.range, List.range.loop, List.map_cons, List.map_nil, List.any_cons, List.any_nil, Nat.reduceAdd, Nat.reduceBEq, Nat.reduceLT, Option.some_beq_some, Bool.or_false, if_true, if_false, List.getD_cons_zero, List.getD_cons_succ, Bool.false_or, Bool.or_true, Bool.true_or, Nat.reduceEqDiff]
                  rw [f5, f6, f7]
                  clear f5 f6 f7
                  go_wp2_with fail
                  try simp only [Exit.inBlock, Exit.then]
                  refine bodyPost_ret (results_27_4 (p := 4) (q := 5) (r := 6) (t := 7) rfl _ _ (w.heap.size + 1) zero40 (.slice none 0 0) (.slice none 0 0) (.int .i64 4) rfl rfl rfl rfl H2.out rfl) rfl ⟨?_, HER.out.below.trans ⟨H1.out.os, H1.out.tape, H1.out.output, H1.out.size, fun k hk => H1.out.block k (Nat.lt_of_lt_of_le hk HER.out.below.size) (by simp; omega)⟩⟩
                  rw [HEQ.out]
                  rfl
          · obtain rfl : steps = j := by omega
            rw [Nat.sub_self] at HJ
            go_wp2_with fail
            go_meet
            exact HJ
      case rest =>
        obtain ⟨s, A2, a2, B2, b2, C2, c2, hsm⟩ := hcut.out
        have HSM := Lib.hid hsm
        have HEQ : Hid (simpE n rels steps = .inl s) := Lib.hid hsm.eq.symm
        obtain ⟨cs, hcs, hres, xx, yy, hxy⟩ := hsm.res
        have hne := HXB.out
        have HXL : Hid (xb < wc.heap.size) := Lib.hid (Array.getElem?_eq_some_iff.1 hsm.st.box).1
        have HC18 : Hid (∀ W', wc.grownBy W' (some (w.heap.size + 1)) → W'.cell? ⟨xb + 1, 0, none⟩ = some (.pointer (some ⟨xb, 0, none⟩)) ∧ W'.heap[xb]? = some (.cells #[.int .i64 (s.n : Int), .slice A2 s.rels.length a2, .slice B2 s.into.length b2, .slice C2 s.back.length c2, .int .i64 0] 68 (0, 0))) := Lib.hid fun W' hg => by
          have h1 := (hg.block _ (Array.getElem?_eq_some_iff.1 HSM.out.ptr).1 (by simp; omega)).trans HSM.out.ptr
          exact ⟨by rw [cell_of_row _ _ _ _ _ _ h1]; rfl, (hg.block xb HXL.out (by simp; omega)).trans HSM.out.st.box⟩
        have HRS := Lib.hid hres
        have HCS := Lib.hid hcs
        clear hcut hsm hres HSIM
        go_wp2_with fail
        refine (wpIn_wide (n := 3)).1 ?_
        refine wpIn_region_all (by kernel_rfl) 16 rfl (fun i => if i < 12 then some (77 + i) else if i = 12 then none else some (i - 8)) (lex_of (by kernel_rfl))
          (fun ls W' => wc.grownBy W' (some (w.heap.size + 1)) ∧ (if ls 12 = true then W'.heap[w.heap.size + 1]? = some (.cells #[.int .i64 (s.n : Int), .slice A2 s.rels.length a2] 24 (0, 0)) else W'.heap[w.heap.size + 1]? = some (.cells cs 24 (0, 0))))
          (fun i v _ => v = [Value.pointer (some ⟨xb, 0, none⟩), .pointer (some ⟨xb, 0, none⟩), .pointer (some ⟨xb, 0, none⟩), .agg #[.int .i64 (s.n : Int), .slice A2 s.rels.length a2], .pointer (some ⟨xb, 0, none⟩), .pointer (some ⟨xb, 0, none⟩), .pointer (some ⟨xb, 2, none⟩), .slice B2 s.into.length b2, .pointer (some ⟨xb, 0, none⟩), .pointer (some ⟨xb, 0, none⟩), .pointer (some ⟨xb, 3, none⟩), .slice C2 s.back.length c2, undef, .slice B2 s.into.length b2, .slice C2 s.back.length c2, .int .i64 0].getD i undef)
          (fun _ _ _ => True) (dm_inj (by kernel_rfl)) (fun _ _ _ _ _ _ _ _ _ h => h) (dm_lt (n := 89) (by kernel_rfl)) ⟨below_grown (Below.refl wc.heap.size wc).drew, HRS.out⟩ ?_ ?_
        · intro ls q o a w6 hq ho hS hls hcl hP hpre
          obtain ⟨hS1, hS2⟩ := hS
          obtain ⟨hp0, hbx⟩ := HC18.out _ hS1
          have hcases : q = 0 ∨ q = 1 ∨ q = 2 ∨ q = 3 ∨ q = 4 ∨ q = 5 ∨ q = 6 ∨ q = 7 ∨ q = 8 ∨ q = 9 ∨ q = 10 ∨ q = 11 ∨ q = 12 ∨ q = 13 ∨ q = 14 ∨ q = 15 := by
            have : q < 16 := hq
            omega
          have hkp : ∀ q, q ≠ 12 → (wc.grownBy w6 (some (w.heap.size + 1)) ∧ (if (fun j => if q = j then true else ls j) 12 = true then w6.heap[w.heap.size + 1]? = some (.cells #[.int .i64 (s.n : Int), .slice A2 s.rels.length a2] 24 (0, 0)) else w6.heap[w.heap.size + 1]? = some (.cells cs 24 (0, 0)))) := fun q h1 => by
            simp only [if_neg h1]
            exact ⟨hS1, hS2⟩
          rcases hcases with rfl | rfl | rfl | rfl | rfl | rfl | rfl | rfl | rfl | rfl | rfl | rfl | rfl | rfl | rfl | rfl
          · obtain rfl := Option.some.inj ho
            exact wpOpIn_of rfl rfl (wpW_val (r_load1 66 agg63 (.tmp 9) ⟨xb + 1, 0, none⟩ rfl (hP.out 9 (dm_out (by kernel_rfl))) hp0) ⟨_, rfl, hkp 0 (by decide), trivial, (fun h => by simp at h), rfl⟩)
          · obtain rfl := Option.some.inj ho
            exact wpOpIn_of rfl rfl (wpW_val (r_nil (.tmp 77) _ rfl (hpre ⟨0, .data⟩ (by simp) rfl).2) ⟨_, rfl, hkp 1 (by decide), trivial, (fun h => by simp at h), rfl⟩)
          · obtain rfl := Option.some.inj ho
            exact wpOpIn_of rfl rfl (wpW_val (r_fld (.tmp 78) _ rfl (hpre ⟨1, .data⟩ (by simp) rfl).2 (fld65_0 xb _)) ⟨_, rfl, hkp 2 (by decide), trivial, (fun h => by simp at h), rfl⟩)
          · obtain rfl := Option.some.inj ho
            exact wpOpIn_of rfl rfl (wpW_val (r_loadAt 24 (.tmp 79) _ _ rfl (hpre ⟨2, .data⟩ (by simp) rfl).2 (load27m hbx)) ⟨_, rfl, hkp 3 (by decide), trivial, (fun h => by simp at h), rfl⟩)
          · obtain rfl := Option.some.inj ho
            exact wpOpIn_of rfl rfl (wpW_val (r_load1 66 agg63 (.tmp 9) ⟨xb + 1, 0, none⟩ rfl (hP.out 9 (dm_out (by kernel_rfl))) hp0) ⟨_, rfl, hkp 4 (by decide), trivial, (fun h => by simp at h), rfl⟩)
          · obtain rfl := Option.some.inj ho
            exact wpOpIn_of rfl rfl (wpW_val (r_nil (.tmp 81) _ rfl (hpre ⟨4, .data⟩ (by simp) rfl).2) ⟨_, rfl, hkp 5 (by decide), trivial, (fun h => by simp at h), rfl⟩)
          · obtain rfl := Option.some.inj ho
            exact wpOpIn_of rfl rfl (wpW_val (r_fld (.tmp 82) _ rfl (hpre ⟨5, .data⟩ (by simp) rfl).2 (fld65_1 xb _)) ⟨_, rfl, hkp 6 (by decide), trivial, (fun h => by simp at h), rfl⟩)
          · obtain rfl := Option.some.inj ho
            exact wpOpIn_of rfl rfl (wpW_val (r_ld25 (.tmp 83) ⟨xb, 2, none⟩ rfl (hpre ⟨6, .data⟩ (by simp) rfl).2 (cells5 hbx).2.2.1) ⟨_, rfl, hkp 7 (by decide), trivial, (fun h => by simp at h), rfl⟩)
          · obtain rfl := Option.some.inj ho
            exact wpOpIn_of rfl rfl (wpW_val (r_load1 66 agg63 (.tmp 9) ⟨xb + 1, 0, none⟩ rfl (hP.out 9 (dm_out (by kernel_rfl))) hp0) ⟨_, rfl, hkp 8 (by decide), trivial, (fun h => by simp at h), rfl⟩)
          · obtain rfl := Option.some.inj ho
            exact wpOpIn_of rfl rfl (wpW_val (r_nil (.tmp 85) _ rfl (hpre ⟨8, .data⟩ (by simp) rfl).2) ⟨_, rfl, hkp 9 (by decide), trivial, (fun h => by simp at h), rfl⟩)
          · obtain rfl := Option.some.inj ho
            exact wpOpIn_of rfl rfl (wpW_val (r_fld (.tmp 86) _ rfl (hpre ⟨9, .data⟩ (by simp) rfl).2 (fld65_2 xb _)) ⟨_, rfl, hkp 10 (by decide), trivial, (fun h => by simp at h), rfl⟩)
          · obtain rfl := Option.some.inj ho
            exact wpOpIn_of rfl rfl (wpW_val (r_load1 35 agg24 (.tmp 87) ⟨xb, 3, none⟩ rfl (hpre ⟨10, .data⟩ (by simp) rfl).2 (cells5 hbx).2.2.2.1) ⟨_, rfl, hkp 11 (by decide), trivial, (fun h => by simp at h), rfl⟩)
          · obtain rfl := Option.some.inj ho
            rw [if_neg (by rw [hls]; simp)] at hS2
            have hg6 : w6.grownBy (w6.setRow (w.heap.size + 1) #[.int .i64 (s.n : Int), .slice A2 s.rels.length a2]) (some (w.heap.size + 1)) := ⟨rfl, rfl, rfl, by rw [World.setRow]; simp, fun k _ hne => setRow_other _ _ k _ (fun e => hne (by rw [e]))⟩
            exact wpOpIn_of rfl rfl (wpW_skip (r_store40 (.tmp 4) (.tmp 80) rfl (w.heap.size + 1) cs #[.int .i64 (s.n : Int), .slice A2 s.rels.length a2] (hP.out 4 (dm_out (by kernel_rfl))) (hpre ⟨3, .data⟩ (by simp) rfl).2 hS2 rfl HCS.out (one40 A2 s.rels.length a2 (s.n : Int))) ⟨undef, rfl, ⟨grown_trans hS1 hg6, by
              rw [if_pos (by simp)]
              exact setRow_heap _ _ _ _ _ _ hS2⟩, trivial, (fun _ => rfl), rfl⟩)
          · obtain rfl := Option.some.inj ho
            exact wpOpIn_of rfl rfl (wpW_val (r_assign (.tmp 84) rfl rfl) ⟨_, rfl, hkp 13 (by decide), trivial, (fun h => by simp at h), (hpre ⟨7, .data⟩ (by simp) rfl).2⟩)
          · obtain rfl := Option.some.inj ho
            exact wpOpIn_of rfl rfl (wpW_val (r_assign (.tmp 88) rfl rfl) ⟨_, rfl, hkp 14 (by decide), trivial, (fun h => by simp at h), (hpre ⟨11, .data⟩ (by simp) rfl).2⟩)
          · obtain rfl := Option.some.inj ho
            exact wpOpIn_of rfl rfl (wpW_val (r_assign (.const (.int .i64 0)) rfl rfl) ⟨_, rfl, hkp 15 (by decide), trivial, (fun h => by simp at h), rfl⟩)
        · intro ls a W6 hall hS hP hsl
          obtain ⟨hS1, hS2⟩ := hS
          rw [if_pos (hall 12 (by decide))] at hS2
          have e5 := hsl 13 (by decide)
          have e6 := hsl 14 (by decide)
          have e7 := hsl 15 (by decide)
          obtain ⟨vs, hvs, hfr⟩ := hP.frame 89 rfl
          have f5 : vs 5 = .slice B2 s.into.length b2 := (hvs 5).trans e5
          have f6 : vs 6 = .slice C2 s.back.length c2 := (hvs 6).trans e6
          have f7 : vs 7 = .int .i64 0 := (hvs 7).trans e7
          have H1 := Lib.hid hS1
          have H2 := Lib.hid hS2
          clear hsl hP hall hvs hS1 hS2 e5 e6 e7
          subst hfr
          simp only [List.range, List.range.loop, List.map_cons, List.map_nil, List.any_cons, List.any_nil, Nat.reduceAdd, Nat.reduceBEq, Nat.reduceLT, Option.some_beq_some, Bool.or_false, if_true, if_false, List.getD_cons_zero, List.getD_cons_succ, Bool.false_or, Bool.or_true, Bool.true_or, Nat.reduceEqDiff]
          rw [f5, f6, f7]
          clear f5 f6 f7
          go_wp2_with fail
          try simp only [Exit.inBlock, Exit.then]
          refine bodyPost_ret (results_27_4 (p := 4) (q := 5) (r := 6) (t := 7) rfl _ _ (w.heap.size + 1) #[.int .i64 (s.n : Int), .slice A2 s.rels.length a2] (.slice B2 s.into.length b2) (.slice C2 s.back.length c2) (.int .i64 0) rfl rfl rfl rfl H2.out rfl) rfl ⟨?_, HSM.out.below.trans ⟨H1.out.os, H1.out.tape, H1.out.output, H1.out.size, fun k hk => H1.out.block k (Nat.lt_of_lt_of_le hk HSM.out.below.size) (by simp; omega)⟩⟩
          rw [HEQ.out]
          refine ⟨A2, a2, B2, b2, C2, c2, rfl, (HSM.out.st.rels.keep (AgX.other H1.out HRS.out (by decide) (by decide))).tab, (HSM.out.st.into.keep (AgX.other H1.out HRS.out (by decide) (by decide))).tab, OwnI.ints (owns_keep HSM.out.st.back fun r hr => ?_) (back_fits HSM.out.ok hg2)⟩
          obtain ⟨-, D, hD⟩ := owns_block HSM.out.st.back r hr
          exact H1.out.block r (Array.getElem?_eq_some_iff.1 hD).1 fun e => (ne_type hD HRS.out (by decide)) (Option.some.inj e)
end Go.Proofs
