/- The walk of RewriteKnown; The laws of chapter 18: long, vast, small, three, awake; Trace of both; The program's Images; The walk of CosetTables; The walk of CosetRuns. -/
import Derived.Test.YtcfighimnkfmeaaCmCS8
import Derived.Test.YtcfighimnkfmeaaCmCS13
import Derived.Test.YtcfighimnkfmeaaCmCS5
import Derived.Test.YtcfighimnkfmeaaCmCS11
import Derived.Test.YtcfighimnkfmeaaCmCS4
namespace Go.Proofs
open Go.RowKit Go.Shelf Go.Proofs.Ct Go.Maps
def smallT : List (List Int) := [[1, 1], [2, 2, 2], [1, 2, 1, 2]]
theorem ints_blk {w : World} {b : Nat} {xs : List Int} (h : w.heap[b]? = some (.cells (ints xs).toArray 3 (0, 0))) (hf : Fits xs) {n : Nat} (hn : xs.length = n) (hm : n ≤ 1000) : IntsAt w (.slice (some ⟨b, 0, none⟩) n n) xs := by
  subst hn
  have hl : xs.length ≤ 9223372036854775807 := by omega
  refine ⟨⟨_, xs.length, xs.length, rfl, by simp [ints], Nat.le_refl _, by simpa [maxLen] using hl, fun _ => ⟨b, 0, rfl, fun j u hu => ?_⟩⟩, hf⟩
  rw [cell_of_row _ _ _ _ _ _ h, Nat.zero_add]
  simpa using hu
/-- rows in a block -/
theorem tab_blk {w : World} {b : Nat} {us : List Value} {xs : List (List Int)} {e : TypeId} (hb : w.heap[b]? = some (.cells us.toArray e (0, 0))) {n : Nat} (hn : us.length = n) (hl : us.length = xs.length) (hm : us.length ≤ 1000) (h : ∀ i, i < xs.length → IntsAt w (us.getD i undef) (xs.getD i [])) :
    Tab w (.slice (some ⟨b, 0, none⟩) n n) xs := by
  subst hn
  have hl9 : us.length ≤ 9223372036854775807 := by omega
  refine ⟨us, ⟨_, us.length, us.length, rfl, rfl, Nat.le_refl _, by simpa [maxLen] using hl9, fun _ => ⟨b, 0, rfl, fun j u hu => ?_⟩⟩, hl, fun i hi => ?_⟩
  · rw [cell_of_row _ _ _ _ _ _ hb, Nat.zero_add]
    simpa using hu
  · have hi' : i < us.length := by omega
    refine ⟨us.getD i undef, ?_, h i hi⟩
    simp [List.getD_eq_getElem?_getD, hi']
theorem fits_lit {xs : List Int} (h : (xs.all fun x => decide (-1000 ≤ x) && decide (x ≤ 1000)) = true) : Fits xs := fun x hx => by
  have := List.all_eq_true.1 h x hx
  simp at this
  omega
theorem build40s (g : Int) (A : Option Addr) (n c : Nat) (w : World) : (Instr.build 40 #[(0, .int .i64 g), (1, .slice A n c)]).run Try.prog w = .ok (.agg #[.int .i64 g, .slice A n c]) w := by kernel_rfl
section
variable {o : Oper} {a : Act} {w w' : World} {n : Nat} {v : Value}
theorem r_build40s (x y : Operand) (g : Int) (A : Option Addr) (m c : Nat) (ho : o.op = .build 40 #[(0, x), (1, y)]) (hx : a.eval x = .int .i64 g) (hy : a.eval y = .slice A m c) : (execOp a.eval o).run Try.prog w = .ok (.value (.agg #[.int .i64 g, .slice A m c])) w := by
  have hb := build40s g A m c w
  unfold execOp
  simp only [ho, List.map_toArray, List.map_cons, List.map_nil, hx, hy, Sem.run_bind, hb, Result.andThen_ok]
  rfl
end
theorem results_40 {fn : Func} {p : Tmp} (h : fn.results = #[.cell p 40]) (tmps : Array Value) (w : World) (g : Nat) (cs : Array Value)
    (hp : tmps.getD p undef = .pointer (some ⟨g, 0, none⟩)) (hg : w.heap[g]? = some (.cells cs 40 (0, 0))) (hs : cs.size = 2) :
    (results fn tmps).run Try.prog w = .ok (.agg cs) w := by
  have hp' : tmps[p]?.getD undef = .pointer (some ⟨g, 0, none⟩) := by simpa using hp
  simp [results, h, hp', asAddr, run_loadVar_row w g 40 40 cs (0, 0) _ hg Try.underlying40 rfl (by rw [hs]; exact info40s)]
def PresAt (g : Int) (l : List (List Int)) (w : World) (e : Ending) (w' : World) : Prop := (∃ A c, e = .returned (.agg #[.int .i64 g, .slice A l.length c]) ∧ Tab w' (.slice A l.length c) l) ∧ Below w.heap.size w w'
/-- what a slot of the drawn region holds -/
inductive SP where
  | eq (v : Value) | ints (l : List Int) | tab (l : List (List Int)) | pres (g : Int) (l : List (List Int)) | any
def SP.holds : SP → Value → World → Prop
  | .eq u, v, _ => v = u
  | .ints l, v, w => IntsAt w v l
  | .tab l, v, w => ∃ A c, v = .slice A l.length c ∧ Tab w v l
  | .pres g l, v, w => ∃ A c, v = .agg #[.int .i64 g, .slice A l.length c] ∧ Tab w (.slice A l.length c) l
  | .any, _, _ => True
theorem SP.keep {s : SP} {v : Value} {w w' : World} (h : Below w.heap.size w w') : s.holds v w → s.holds v w' := by
  cases s with
  | eq u => exact id
  | ints l => exact fun k => k.below h
  | tab l => exact fun ⟨A, c, e, k⟩ => ⟨A, c, e, kept_tab.below k h⟩
  | pres g l => exact fun ⟨A, c, e, k⟩ => ⟨A, c, e, kept_tab.below k h⟩
  | any => exact id
theorem bs1 (x : Int) (w : World) : (Instr.buildSlice 25 1 #[(0, .int .i64 x)]).run Try.prog w = .ok (.slice (some ⟨w.heap.size, 0, none⟩) 1 1) (w.alloc (.cells #[.int .i64 x] 3)) := by kernel_rfl
section
variable {o : Oper} {a : Act} {w w' : World} {n : Nat} {v : Value}
theorem r_bs1 (x : Operand) (i : Int) (ho : o.op = .buildSlice 25 1 #[(0, x)]) (hx : a.eval x = .int .i64 i) : (execOp a.eval o).run Try.prog w = .ok (.value (.slice (some ⟨w.heap.size, 0, none⟩) 1 1)) (w.alloc (.cells #[.int .i64 i] 3)) := by
  have hb := bs1 i w
  unfold execOp
  simp only [ho, List.map_toArray, List.map_cons, List.map_nil, hx, Sem.run_bind, hb, Result.andThen_ok]
  rfl
end
end Go.Proofs
namespace Go.Proofs
open Go.RowKit Go.Shelf Go.Proofs.Ct Go.Maps
set_option maxRecDepth 100000 in
theorem small55_any (w : World) : Calls Try.prog 55 #[] w (PresAt 2 smallT w) := by
  have hg : ∀ i o, [Obj.cells zero40 40, .cells (ints [1, 1]).toArray 3, .cells (ints [2, 2, 2]).toArray 3, .cells (ints [1, 2, 1, 2]).toArray 3, .cells #[.slice (some ⟨w.heap.size + 1, 0, none⟩) 2 2, .slice (some ⟨w.heap.size + 1 + 1, 0, none⟩) 3 3, .slice (some ⟨w.heap.size + 1 + 1 + 1, 0, none⟩) 4 4] 25][i]? = some o →
      (((((w.alloc (.cells zero40 40)).alloc (.cells (ints [1, 1]).toArray 3)).alloc (.cells (ints [2, 2, 2]).toArray 3)).alloc (.cells (ints [1, 2, 1, 2]).toArray 3)).alloc (.cells #[.slice (some ⟨w.heap.size + 1, 0, none⟩) 2 2, .slice (some ⟨w.heap.size + 1 + 1, 0, none⟩) 3 3, .slice (some ⟨w.heap.size + 1 + 1 + 1, 0, none⟩) 4 4] 25)).heap[w.heap.size + i]? = some o := fun i o h => allocs_get _ w i o h
  have hb : Below w.heap.size w (((((w.alloc (.cells zero40 40)).alloc (.cells (ints [1, 1]).toArray 3)).alloc (.cells (ints [2, 2, 2]).toArray 3)).alloc (.cells (ints [1, 2, 1, 2]).toArray 3)).alloc (.cells #[.slice (some ⟨w.heap.size + 1, 0, none⟩) 2 2, .slice (some ⟨w.heap.size + 1 + 1, 0, none⟩) 3 3, .slice (some ⟨w.heap.size + 1 + 1 + 1, 0, none⟩) 4 4] 25)) :=
    allocs_below [Obj.cells zero40 40, .cells (ints [1, 1]).toArray 3, .cells (ints [2, 2, 2]).toArray 3, .cells (ints [1, 2, 1, 2]).toArray 3, .cells #[.slice (some ⟨w.heap.size + 1, 0, none⟩) 2 2, .slice (some ⟨w.heap.size + 1 + 1, 0, none⟩) 3 3, .slice (some ⟨w.heap.size + 1 + 1 + 1, 0, none⟩) 4 4] 25] w w.heap.size (Nat.le_refl _)
  have HG := Lib.hid hg
  have HB := Lib.hid hb
  have HX := Lib.hid (hg 0 _ rfl)
  clear hg hb
  go_enter Try.func55, Try.ntmps55
  go_wp2_with (first
    | ((with_reducible refine wpList_sel 0 ?_); refine wpList_val rfl (r_alloc40 rfl) ?_)
    | ((with_reducible refine wpList_sel 5 ?_); refine wpList_val rfl (r_build40s _ (.tmp 4) 2 _ _ _ rfl rfl rfl) ?_; refine wpList_skip rfl (r_store40 (.tmp 0) (.tmp 5) rfl w.heap.size zero40 _ rfl rfl HX.out rfl rfl (one40 _ _ _ _)) ?_))
  try simp only [Exit.inBlock, Exit.then]
  refine bodyPost_ret (results_40 (p := 0) rfl _ _ w.heap.size _ rfl (setRow_heap _ _ _ _ _ _ HX.out) rfl) rfl ⟨⟨_, _, rfl, ?_⟩, below_setRow HB.out (Nat.le_refl _) _⟩
  refine tab_blk ((setRow_other _ _ _ _ (by omega)).trans (HG.out 4 _ rfl)) rfl rfl (by simp) fun i hi => ?_
  have hi3 : i = 0 ∨ i = 1 ∨ i = 2 := by simp [smallT] at hi; omega
  rcases hi3 with rfl | rfl | rfl
  · exact ints_blk ((setRow_other _ _ _ _ (by omega)).trans (HG.out 1 _ rfl)) (fits_lit (by decide)) rfl (by omega)
  · exact ints_blk ((setRow_other _ _ _ _ (by omega)).trans (HG.out 2 _ rfl)) (fits_lit (by decide)) rfl (by omega)
  · exact ints_blk ((setRow_other _ _ _ _ (by omega)).trans (HG.out 3 _ rfl)) (fits_lit (by decide)) rfl (by omega)
def threeT : List (List Int) := [[0, 0, 1, 2], [2, 2, 2, 0], [1, 1, 0, 1]]
theorem three56_any (w : World) : Calls Try.prog 56 #[] w fun e w' => (∃ u, e = .returned u ∧ Tab w' u threeT) ∧ Below w.heap.size w w' := by
  have h1 := ints_lit w [0, 0, 1, 2] (by unfold Fits; decide) 4 rfl (by omega)
  have h2 := ints_lit (w.alloc (.cells (ints [0, 0, 1, 2]).toArray 3)) [2, 2, 2, 0] (by unfold Fits; decide) 4 rfl (by omega)
  have h3 := ints_lit ((w.alloc (.cells (ints [0, 0, 1, 2]).toArray 3)).alloc (.cells (ints [2, 2, 2, 0]).toArray 3)) [1, 1, 0, 1] (by unfold Fits; decide) 4 rfl (by omega)
  have h4 := tab_three _ _ _ _ _ _ _ (h1.below (((Below.refl _ _).alloc (Nat.le_refl _) _).alloc (by simp) _)) (h2.below ((Below.refl _ _).alloc (Nat.le_refl _) _)) h3 (e := 24)
  have hb : Below w.heap.size w ((((w.alloc (.cells (ints [0, 0, 1, 2]).toArray 3)).alloc (.cells (ints [2, 2, 2, 0]).toArray 3)).alloc (.cells (ints [1, 1, 0, 1]).toArray 3)).alloc (.cells #[.slice (some ⟨w.heap.size, 0, none⟩) 4 4, .slice (some ⟨w.heap.size + 1, 0, none⟩) 4 4, .slice (some ⟨w.heap.size + 1 + 1, 0, none⟩) 4 4] 24)) :=
    (((((Below.refl _ _).alloc (Nat.le_refl _) _).alloc (by simp) _).alloc (by simp; omega) _).alloc (by simp; omega) _)
  simp only [World.size_alloc] at h4
  have H4 := Lib.hid h4
  have HB := Lib.hid hb
  clear h1 h2 h3 h4 hb
  go_enter Try.func56, Try.ntmps56
  go_wp2_with fail
  go_ret
  exact ⟨⟨_, rfl, H4.out⟩, HB.out⟩
theorem wake_enum : enumE 2 smallT [[1]] 100 = (threeT, (3, 3), 0) := by decide +kernel
/-- a list of one word of one letter -/
theorem one_word (w : World) (x : Int) (hx : -1000 ≤ x ∧ x ≤ 1000) : Tab ((w.alloc (.cells #[.int .i64 x] 3)).alloc (.cells #[.slice (some ⟨w.heap.size, 0, none⟩) 1 1] 25)) (.slice (some ⟨w.heap.size + 1, 0, none⟩) 1 1) [[x]] := by
  have h1 := ints_lit w [x] (fun y hy => by simp at hy; omega) 1 rfl (by omega)
  have hb : Below (w.alloc (.cells #[.int .i64 x] 3)).heap.size (w.alloc (.cells #[.int .i64 x] 3)) ((w.alloc (.cells #[.int .i64 x] 3)).alloc (.cells #[.slice (some ⟨w.heap.size, 0, none⟩) 1 1] 25)) := (Below.refl _ _).alloc (Nat.le_refl _) _
  have h2 := heap_alloc_new (w.alloc (.cells #[.int .i64 x] 3)) (.cells #[.slice (some ⟨w.heap.size, 0, none⟩) 1 1] 25)
  rw [World.size_alloc] at h2
  exact tab_blk (us := [.slice (some ⟨w.heap.size, 0, none⟩) 1 1]) h2 rfl rfl (by simp) fun i hi => by
    have : i = 0 := by simpa using hi
    subst this
    exact IntsAt.below h1 hb
theorem one_word_below (w : World) (x : Int) : Below w.heap.size w ((w.alloc (.cells #[.int .i64 x] 3)).alloc (.cells #[.slice (some ⟨w.heap.size, 0, none⟩) 1 1] 25)) := ((Below.refl _ _).alloc (Nat.le_refl _) _).alloc (by simp) _
set_option maxRecDepth 100000 in
set_option maxHeartbeats 1000000 in
theorem awake31_any (w : World) : Calls Try.prog 31 #[] w fun e w' => e = .returned (.bool true) ∧ Below w.heap.size w w' := by
  have HE := Lib.hid (fun W vr vs (h1 : Tab W vr smallT) (h2 : Tab W vs [[1]]) => (enum32_any W vr vs 2 smallT [[1]] 100 h1 h2 (fun j => by
      rcases j with _ | j
      · simp
      · simp) (by simp)).mono fun e w' (⟨⟨u, h1, h2⟩, h3⟩ : EnumPost 2 smallT [[1]] 100 W e w') => by
    rw [wake_enum] at h1 h2
    exact (⟨⟨u, h1, h2⟩, h3⟩ : (∃ u, e = .returned (.tuple #[u, .agg #[.int .i64 3, .int .i64 3, .int .i64 0], .int .i64 0]) ∧ Tab w' u threeT) ∧ Below W.heap.size W w'))
  have HS := Lib.hid fun (W : World) (a b : Value) (h1 : Tab W a threeT) (h2 : Tab W b threeT) => (same18_any W a b threeT threeT h1 h2)
  go_enter Try.func31, Try.ntmps31
  go_wp2_with (first
    | (go_at_call 55; (refine (small55_any _).mono ?_); rintro e w1 ⟨⟨A, c, rfl, ht⟩, hb⟩
       have HT1 := Lib.hid ht
       have HB1 := Lib.hid hb
       clear ht hb)
    | (go_at_call 32; (refine (HE.out _ _ _ (kept_tab.below HT1.out (one_word_below w1 1)) (one_word w1 1 (by omega))).mono ?_); rintro e w2 ⟨⟨u, rfl, ht⟩, hb⟩
       have HT2 := Lib.hid ht
       have HB2 := Lib.hid ((HB1.out.trans ((one_word_below w1 1).mono HB1.out.size)).trans (hb.mono (Nat.le_trans HB1.out.size (one_word_below w1 1).size)))
       obtain ⟨A2, c2, rfl⟩ := Tab.form ht
       have HBa : Hid (Below w2.heap.size w2 (w2.alloc (.cells #[.int .i64 3, .int .i64 3, .int .i64 0] 49))) := Lib.hid ((Below.refl _ _).alloc (Nat.le_refl _) _)
       clear ht hb)
    | (go_at_call 56; (refine (three56_any _).mono ?_); rintro e w3 ⟨⟨u3, rfl, ht⟩, hb⟩
       have HT3 := Lib.hid ht
       have HB3 := Lib.hid (HBa.out.trans (hb.mono HBa.out.size))
       clear ht hb)
    | (go_at_call 34; (refine (HS.out _ _ _ (kept_tab.below HT2.out HB3.out) HT3.out).mono ?_); rintro e w4 ⟨rfl, q, rfl⟩))
  go_ret
  exact ⟨ret_bool (by simp), below_drewN (HB2.out.trans (HB3.out.mono HB2.out.size)) _⟩
end Go.Proofs
namespace Go.Proofs
open Go.RowKit Go.Shelf Go.Proofs.Ct Go.Maps
def traceE (g : Int) (t : Tb) (r : Int) (ws : List Int) : Int × Bool :=
  if (check g t).1 ≠ 0 then (0, false) else
  if r < 0 ∨ (t.length : Int) ≤ r then (0, false) else
  if (ws.any (letBad g.toNat)) = true then (0, false) else
  (if leads t r ws < 0 then 0 else leads t r ws, decide (0 ≤ leads t r ws))
def TracePostE (g : Int) (t : Tb) (r : Int) (ws : List Int) (w : World) (e : Ending) (w' : World) : Prop :=
  e = .returned (.tuple #[.int .i64 (traceE g t r ws).1, .bool (traceE g t r ws).2]) ∧ Below w.heap.size w w'
set_option maxRecDepth 100000 in
set_option maxHeartbeats 1000000 in
theorem trace40_any (w : World) (v u : Value) (g : Int) (t : Tb) (r : Int) (ws : List Int) (ht : Tab w v t) (hu : IntsAt w u ws) : Calls Try.prog 40 #[.int .i64 g, v, .int .i64 r, u] w (TracePostE g t r ws w) := by
  have HC := Lib.hid (check43_any w v g t ht)
  have HT := Lib.hid ht
  have HU := Lib.hid hu
  obtain ⟨A, c, rfl, hc1, hc2, hc⟩ := ht.open_
  obtain ⟨Au, cu, rfl, -, -, -⟩ := hu.open_
  clear hc ht hu
  unfold TracePostE
  by_cases h1 : (check g t).1 = 0
  · obtain ⟨h0, hg, -⟩ := check_good h1
    obtain ⟨gn, rfl⟩ : ∃ n : Nat, g = n := ⟨g.toNat, by omega⟩
    rw [Int.toNat_natCast] at hg
    have hck := check_of_good hg
    have HC' : Hid (Calls Try.prog 43 #[.int .i64 (gn : Int), .slice A t.length c] w fun e w' => e = .returned (.tuple #[.int .i64 0, .int .i64 (-1)]) ∧ Below w.heap.size w w') := Lib.hid (HC.out.mono fun e w' ⟨h2, h3⟩ => by rw [hck] at h2; exact ⟨h2, h3⟩)
    have hg16 := hg.g16
    by_cases h2 : r < 0
    · have HE : Hid (traceE (gn : Int) t r ws = (0, false)) := Lib.hid (by unfold traceE; rw [if_neg (by omega), if_pos (.inl h2)])
      clear HC h1 h0 hck hg HT HU
      generalize traceE (gn : Int) t r ws = X at *
      go_enter Try.func40, Try.ntmps40
      go_wp2_with (go_at_call 43; (refine HC'.out.mono ?_); rintro e w' ⟨rfl, hb⟩; have HB := Lib.hid hb; clear hb)
      go_ret2
      exact ⟨ret_ib (by rw [HE.out]) (by rw [HE.out]), HB.out⟩
    · by_cases h3 : (t.length : Int) ≤ r
      · have HE : Hid (traceE (gn : Int) t r ws = (0, false)) := Lib.hid (by unfold traceE; rw [if_neg (by omega), if_pos (.inr h3)])
        clear HC h1 h0 hck hg HT HU
        generalize traceE (gn : Int) t r ws = X at *
        go_enter Try.func40, Try.ntmps40
        go_wp2_with (go_at_call 43; (refine HC'.out.mono ?_); rintro e w' ⟨rfl, hb⟩; have HB := Lib.hid hb; clear hb)
        go_ret2
        exact ⟨ret_ib (by rw [HE.out]) (by rw [HE.out]), HB.out⟩
      · obtain ⟨rn, rfl⟩ : ∃ n : Nat, r = n := ⟨r.toNat, by omega⟩
        have hr : rn < t.length := by omega
        have HF : Hid (∀ w', Below w.heap.size w w' → Calls Try.prog 83 #[.int .i64 (gn : Int), .slice Au ws.length cu] w' fun e w'' => e = .returned (.bool (!(ws.any (letBad gn)))) ∧ Below w'.heap.size w' w'') := Lib.hid fun w' hb => fine83_any w' gn _ ws hg16 (kept_ints.below HU.out hb)
        by_cases h4 : ws.any (letBad gn) = true
        · have HE : Hid (traceE (gn : Int) t (rn : Int) ws = (0, false)) := Lib.hid (by unfold traceE; rw [if_neg (by omega), if_neg (by omega), if_pos (by simpa using h4)])
          rw [h4] at HF
          clear HC h1 h0 hck hg HT HU h4
          generalize traceE (gn : Int) t (rn : Int) ws = X at *
          go_enter Try.func40, Try.ntmps40
          go_wp2_with (first
            | (go_at_call 43; (refine HC'.out.mono ?_); rintro e w' ⟨rfl, hb⟩; have HB := Lib.hid hb; clear hb)
            | (go_at_call 83; (refine (HF.out _ HB.out).mono ?_); rintro e w' ⟨rfl, hb⟩; have HB2 := Lib.hid (HB.out.trans (hb.mono HB.out.size)); clear hb))
          go_ret2
          exact ⟨ret_ib (by rw [HE.out]) (by rw [HE.out]), HB2.out⟩
        · have h4' : ws.any (letBad gn) = false := by simpa using h4
          have HE : Hid (traceE (gn : Int) t (rn : Int) ws = (if leads t rn ws < 0 then 0 else leads t rn ws, decide (0 ≤ leads t rn ws))) := Lib.hid (by unfold traceE; rw [if_neg (by omega), if_neg (by omega), if_neg (by simpa using h4)])
          have HW : Hid (∀ w', Below w.heap.size w w' → Calls Try.prog 94 #[.slice A t.length c, .int .i64 (rn : Int), .slice Au ws.length cu] w' (TracePost (leads t rn ws) w')) := Lib.hid fun w' hb => trace94_any w' _ _ gn t rn ws (kept_tab.below HT.out hb) (kept_ints.below HU.out hb) hg (letsOk_of h4') hr
          rw [h4'] at HF
          unfold TracePost at HW
          rw [HE.out]
          clear HC h1 h0 hck hg HT HU h4 h4' HE
          generalize leads t rn ws = l at *
          generalize decide (0 ≤ l) = y at *
          generalize (if l < 0 then 0 else l) = x at *
          go_enter Try.func40, Try.ntmps40
          go_wp2_with (first
            | (go_at_call 43; (refine HC'.out.mono ?_); rintro e w' ⟨rfl, hb⟩; have HB := Lib.hid hb; clear hb)
            | (go_at_call 83; (refine (HF.out _ HB.out).mono ?_); rintro e w' ⟨rfl, hb⟩; have HB2 := Lib.hid (HB.out.trans (hb.mono HB.out.size)); clear hb)
            | (go_at_call 94; (refine (HW.out _ HB2.out).mono ?_); rintro e w' ⟨rfl, q, rfl⟩))
          go_ret2
          exact ⟨rfl, below_drewN HB2.out q⟩
  · have HE : Hid (traceE g t r ws = (0, false)) := Lib.hid (by unfold traceE; rw [if_pos h1])
    have hx : ((check g t).1 != 0) = true := by simpa using h1
    unfold CheckPost at HC
    clear HT HU h1
    generalize traceE g t r ws = X at *
    generalize (check g t).1 = e1 at *
    generalize (check g t).2 = e2 at *
    go_enter Try.func40, Try.ntmps40
    go_wp2_with (go_at_call 43; (refine HC.out.mono ?_); rintro e w' ⟨rfl, hb⟩; have HB := Lib.hid hb; clear hb)
    go_ret2
    exact ⟨ret_ib (by rw [HE.out]) (by rw [HE.out]), HB.out⟩
end Go.Proofs
namespace Go.Proofs
open Go.RowKit Go.Shelf Go.Proofs.Ct Go.Maps
/-- a list of g lists of the call's own, each in its own block -/
structure ImgS (w0 wr : World) (B g : Nat) (f : Nat → List Int) (vs : Nat → Value) : Prop where
  below : Below w0.heap.size w0 wr
  ge : w0.heap.size ≤ B
  blk : ∃ C, wr.heap[B]? = some (.cells C 24 (0, 0)) ∧ ∀ c, c < g → C[c]? = some (vs c)
  row : ∀ c, c < g → OwnI w0.heap.size wr (vs c) (f c)
  ap : ∀ c d, c < g → d < g → c ≠ d → ∀ r, (vs c).ownBlock = some r → (vs d).ownBlock ≠ some r
section
variable {w0 wr : World} {B g : Nat} {f : Nat → List Int} {vs : Nat → Value}
theorem ImgS.lt (h : ImgS w0 wr B g f vs) : B < wr.heap.size := by obtain ⟨C, hC, -⟩ := h.blk; exact (Array.getElem?_eq_some_iff.1 hC).1
theorem ImgS.own (h : ImgS w0 wr B g f vs) {c : Nat} (hc : c < g) : (vs c).ownBlock ≠ some B := fun e => by
  obtain ⟨-, C, hC⟩ := owns_block (h.row c hc) B e
  obtain ⟨C', hC', -⟩ := h.blk
  rw [hC'] at hC
  cases hC
theorem ImgS.below' {w' : World} (h : ImgS w0 wr B g f vs) (hb : Below wr.heap.size wr w') : ImgS w0 w' B g f vs := by
  obtain ⟨C, hC, h1⟩ := h.blk
  exact ⟨h.below.trans (hb.mono h.below.size), h.ge, ⟨C, (hb.block _ h.lt).trans hC, h1⟩, fun c hc => owns_below (h.row c hc) hb, h.ap⟩
theorem ImgS.cell (h : ImgS w0 wr B g f vs) {c : Nat} (hc : c < g) : wr.cell? ⟨B, c, none⟩ = some (vs c) := by
  obtain ⟨C, hC, h1⟩ := h.blk
  rw [cell_of_row _ _ _ _ _ _ hC]
  exact h1 c hc
theorem ImgS.frozen (h : ImgS w0 wr B g f vs) (c : Nat) : wr.frozen? ⟨B, c, none⟩ = false := by
  obtain ⟨C, hC, -⟩ := h.blk
  simp [World.frozen?, hC]
theorem ImgS.push (h : ImgS w0 wr B g f vs) {c : Nat} (hc : c < g) (z : Int) (hl : (f c).length ≤ 1000000) :
    ∃ A' c' w', (Builtin.append_ #[24, 24] 24 #[vs c, .slice (some ⟨wr.heap.size, 0, none⟩) 1 1]).run Try.prog (wr.alloc (.cells #[.int .i64 z] 3)) = .ok (.slice A' ((f c).length + 1) c') w' ∧
      w'.cell? ⟨B, c, none⟩ = some (vs c) ∧ w'.frozen? ⟨B, c, none⟩ = false ∧
      ImgS w0 (w'.setCell ⟨B, c, none⟩ (.slice A' ((f c).length + 1) c')) B g (fun d => if d = c then f c ++ [z] else f d) (fun d => if d = c then .slice A' ((f c).length + 1) c' else vs d) := by
  obtain ⟨A', c', w', hr, ho, hg, hw⟩ := push_int 24 24 Try.underlying24 wr w0.heap.size (vs c) (f c) (h.row c hc) z (by omega) h.below.size
  obtain ⟨C, hC, h1⟩ := h.blk
  have hCB : w'.heap[B]? = some (.cells C 24 (0, 0)) := (hg.block B h.lt (fun e => h.own hc e.symm)).trans hC
  have hrow : ∀ d, d < g → d ≠ c → OwnI w0.heap.size w' (vs d) (f d) := fun d hd hne => owns_keep (h.row d hd) fun r hr' => hg.block r (owns_lt (h.row d hd) hr') fun e => h.ap d c hd hc hne r hr' e.symm
  have hset : ∀ {u : Value} {x : List Int}, OwnI w0.heap.size w' u x → OwnI w0.heap.size (w'.setCell ⟨B, c, none⟩ (.slice A' ((f c).length + 1) c')) u x := fun {u x} hu => owns_keep hu fun r hr' => Below.heap_setCell w' ⟨B, c, none⟩ _ r fun e => by
    have e' : r = B := e
    obtain ⟨-, C', hC'⟩ := owns_block hu r hr'
    rw [e', hCB] at hC'
    cases hC'
  refine ⟨A', c', w', hr, by rw [cell_of_row _ _ _ _ _ _ hCB]; exact h1 c hc, by simp [World.frozen?, hCB], ?_, h.ge, ⟨C.setIfInBounds c (.slice A' ((f c).length + 1) c'), by simp [World.setCell, Array.getElem?_modify, hCB], fun d hd => ?_⟩, fun d hd => ?_, fun d1 d2 hd1 hd2 hne r hr1 => ?_⟩
  · exact (h.below.grown hg h.below.size (fun r hr' => (owns_block (h.row c hc) r hr').1)).setCell h.ge _
  · by_cases e : d = c
    · subst e
      have hsz : d < C.size := (Array.getElem?_eq_some_iff.1 (h1 d hd)).1
      simp [hsz]
    · skip
      rw [if_neg e, Array.getElem?_setIfInBounds_ne (fun e' => e e'.symm)]
      exact h1 d hd
  · by_cases e : d = c
    · rw [if_pos e, if_pos e]
      exact hset ho
    · rw [if_neg e, if_neg e]
      exact hset (hrow d hd e)
  · skip
    by_cases e1 : d1 = c
    · rw [if_pos e1] at hr1
      rw [if_neg (by omega)]
      rcases hw with hw | ⟨r', hw, hge⟩
      · rw [hw] at hr1
        exact h.ap c d2 hc hd2 (by omega) r hr1
      · rw [hw] at hr1
        cases hr1
        intro e
        have := owns_lt (h.row d2 hd2) e
        omega
    · rw [if_neg e1] at hr1
      by_cases e2 : d2 = c
      · rw [if_pos e2]
        rcases hw with hw | ⟨r', hw, hge⟩
        · rw [hw]
          exact h.ap d1 c hd1 hc (by omega) r hr1
        · rw [hw]
          intro e
          cases e
          have := owns_lt (h.row d1 hd1) hr1
          omega
      · rw [if_neg e2]
        exact h.ap d1 d2 hd1 hd2 hne r hr1
theorem ImgS.tab (h : ImgS w0 wr B g f vs) (hf : ∀ c, c < g → Fits (f c)) (hg : g ≤ 1000000) : Tab wr (.slice (some ⟨B, 0, none⟩) g g) ((List.range g).map f) := by
  refine ⟨(List.range g).map vs, ⟨_, g, g, rfl, by simp, Nat.le_refl _, by simp [maxLen]; omega, fun _ => ⟨B, 0, rfl, fun j v hj => ?_⟩⟩, by simp, fun i hi => ?_⟩
  · have hj' : j < g := by have := (List.getElem?_eq_some_iff.1 hj).1; simpa using this
    rw [Nat.zero_add, h.cell hj']
    simpa [hj'] using hj
  · have hi' : i < g := by simpa using hi
    refine ⟨vs i, by simp [hi'], ?_⟩
    have := OwnI.ints (h.row i hi') (hf i hi')
    simpa [List.getD_eq_getElem?_getD, hi'] using this
end
theorem made24 (n : Nat) : madeCells (Value.slice none 0 0).cells n = Array.replicate n (.slice none 0 0) := by
  apply Array.ext_getElem?
  intro k
  simp only [madeCells, Value.cells, Array.getElem?_map, Array.getElem?_range, Array.getElem?_replicate]
  by_cases h : k < n
  · simp [h, Nat.mod_one]
  · simp [h]
theorem make22r (w : World) (n : Nat) (hn : n ≤ 100000) : (Instr.makeSlice 22 (.int .i64 (n : Int)) (.int .i64 (n : Int))).run Try.prog w =
    .ok (.slice (some ⟨w.heap.size, 0, none⟩) n n) (w.alloc (.cells (Array.replicate n (.slice none 0 0)) 24)) := by
  obtain ⟨i, hi, hz, hs, hb⟩ := info24p
  have := run_makeSlice (P := Try.prog) w 22 24 i (.slice none 0 0) Try.underlying22 hi hz .i64 .i64 n n (by omega) (Int.le_refl _) (by rw [hs]; simp; omega) (by rw [hb]; omega) (by omega)
  rw [this, hs, Int.toNat_natCast, Nat.mul_one, made24]
theorem ImgS.first {w0 w : World} (h : Below w0.heap.size w0 w) (g : Nat) : ImgS w0 (w.alloc (.cells (Array.replicate g (.slice none 0 0)) 24)) w.heap.size g (fun _ => []) (fun _ => .slice none 0 0) :=
  ⟨h.alloc h.size _, h.size, ⟨_, heap_alloc_new w _, fun c hc => by simp [hc]⟩, fun _ _ => World.ownsRow_nil _ _ _ _, fun _ _ _ _ _ _ hr => by cases hr⟩
theorem mul2 (w : World) (k : Nat) (hk : k ≤ 1000) : (binOp .mul 3 (.int .i64 2) (.int .i64 (k : Int))).run Try.prog w = .ok (.int .i64 (2 * (k : Int))) w := by
  have e : wrap64 (2 * (k : Int)) = 2 * (k : Int) := IntWalk.wrap64_in _ ⟨by omega, by omega⟩
  simp [go_sem, IntWalk.i64_left, e]
theorem r_mul2 {o : Oper} {a : Act} {w : World} (x : Operand) (k : Nat) (hk : k ≤ 1000) (ho : o.op = .binOp .mul 3 (.const (.int .i64 2)) x 3) (hx : a.eval x = .int .i64 (k : Int)) : (execOp a.eval o).run Try.prog w = .ok (.value (.int .i64 (2 * (k : Int)))) w := by
  have h := mul2 w k hk
  have hc : a.eval (.const (.int .i64 2)) = .int .i64 2 := rfl
  unfold execOp
  have hg : (eqGuard BinOp.mul 3 (.const (.int .i64 2)) x (.int .i64 2) (.int .i64 (k : Int))).run Try.prog w = .ok () w := rfl
  simp only [ho, hx, hc, Sem.run_bind, hg, h, Result.andThen_ok]
  rfl
theorem idx_off {T E : TypeId} (hu : Try.prog.underlying T = some (.slice E)) (hs : ∀ w, (sizeOf E).run Try.prog w = .ok 1 w) (g o m c i : Nat) (z : Int) (hz : z = (i : Int)) (hi : i < m) (w : World) :
    (Instr.indexAt T (.slice (some ⟨g, o, none⟩) m c) (.int .i64 z)).run Try.prog w = .ok (.pointer (some ⟨g, o + i, none⟩)) w := by
  subst hz
  have h2 := Addr.add_mid g o i
  simp [Instr.indexAt, asIntOf, run_underlying hu, hs, h2, hi]
set_option maxRecDepth 100000 in
set_option maxHeartbeats 2000000 in
theorem img53_any (w : World) (v : Value) (g : Int) (t : Tb) (ht : Tab w v t) : Calls Try.prog 53 #[.int .i64 g, v] w (ImgPost g t w) := by
  have HC := Lib.hid (check43_any w v g t ht)
  have HT := Lib.hid ht
  obtain ⟨A, c, rfl, hc1, hc2, hc⟩ := ht.open_
  by_cases h1 : (check g t).1 = 0
  · obtain ⟨h0, hg, -⟩ := check_good h1
    obtain ⟨gn, rfl⟩ : ∃ n : Nat, g = n := ⟨g.toNat, by omega⟩
    rw [Int.toNat_natCast] at hg
    have hck := check_of_good hg
    have HC' : Hid (Calls Try.prog 43 #[.int .i64 (gn : Int), .slice A t.length c] w fun e w' => e = .returned (.tuple #[.int .i64 0, .int .i64 (-1)]) ∧ Below w.heap.size w w') := Lib.hid (HC.out.mono fun e w' ⟨h2, h3⟩ => by rw [hck] at h2; exact ⟨h2, h3⟩)
    have HCO : Hid (∀ w', Below w.heap.size w w' → Calls Try.prog 45 #[.slice A t.length c] w' fun e w'' => e = .returned (.bool (complete t)) ∧ Below w'.heap.size w' w'') := Lib.hid fun w' hb => complete45_any w' _ t (kept_tab.below HT.out hb)
    cases hcm : complete t with
    | false =>
      have HE : Hid (imgE (gn : Int) t = ([], 13)) := Lib.hid (by unfold imgE; rw [if_neg (by omega), if_pos hcm])
      rw [hcm] at HCO
      clear HC h1 h0 hck hg HT hcm hc ht
      unfold ImgPost
      generalize imgE (gn : Int) t = X at *
      go_enter Try.func53, Try.ntmps53
      go_wp2_with (first
        | (go_at_call 43; (refine HC'.out.mono ?_); rintro e w' ⟨rfl, hb⟩; have HB := Lib.hid hb; clear hb)
        | (go_at_call 45; (refine (HCO.out _ HB.out).mono ?_); rintro e w' ⟨rfl, hb⟩; have HB2 := Lib.hid (HB.out.trans (hb.mono HB.out.size)); clear hb))
      go_ret2
      exact ⟨⟨_, ret_of2 rfl (by rw [HE.out]), by rw [HE.out]; exact tab_nil⟩, HB2.out⟩
    | true =>
      have HE : Hid (imgE (gn : Int) t = (imgTo t gn, 0)) := Lib.hid (by unfold imgE; rw [if_neg (by omega), if_neg (by rw [hcm]; simp)]; rfl)
      rw [hcm] at HCO
      obtain ⟨bt, ot, rfl, hcell⟩ := hc (by have := hg.n1; omega)
      have HTC := Lib.hid hcell
      have HG := Lib.hid hg
      have hg0 : (0 : Int) ≤ (gn : Int) := Int.natCast_nonneg _
      have hg16 := hg.g16
      have hg16' : (gn : Int) ≤ 16 := by omega
      have hn2 := hg.n2
      clear HC h1 h0 hck hg HT hcm hc ht hcell
      unfold ImgPost
      generalize imgE (gn : Int) t = X at *
      go_enter Try.func53, Try.ntmps53
      go_wp2_with (first
        | (go_at_call 43; (refine HC'.out.mono ?_); rintro e w1 ⟨rfl, hb⟩; have HB := Lib.hid hb; clear hb)
        | (go_at_call 45; (refine (HCO.out _ HB.out).mono ?_); rintro e w2 ⟨rfl, hb⟩; have HB2 := Lib.hid (HB.out.trans (hb.mono HB.out.size)); have HI := Lib.hid (ImgS.first HB2.out gn); have HM := Lib.hid (make22r w2 gn (by omega)); clear hb)
        | ((with_reducible refine wpList_sel 25 ?_); refine wpList_val rfl (r_make 22 (.tmp 24) (.tmp 24) rfl rfl rfl HM.out) ?_))
      rename World => w2
      generalize hB : w2.heap.size = B at *
      generalize w2.alloc (.cells (Array.replicate gn (.slice none 0 0)) 24) = w3 at *
      clear hB HM HB2
      go_loopw [28] (fun i wr => ∃ r : Nat, i = .int .i64 (r : Int) ∧ r ≤ t.length ∧ ∃ vs, Hid (ImgS w wr B gn (fun c => colTo t c r) vs)) (fun i _ => t.length - (intOf i).toNat)
      case atStart => exact ⟨0, rfl, by omega, _, HI⟩
      case round =>
        clear HI
        obtain ⟨r, rfl, hr, vs, HI⟩ := hrel
        have hr0 : (0 : Int) ≤ (r : Int) := Int.natCast_nonneg _
        by_cases hlt : r < t.length
        · have hlt' : (r : Int) < (t.length : Int) := by omega
          have hrl := HG.out.len r hlt
          obtain ⟨u, hu0, hI⟩ := HTC.out r hlt
          have hu := (HI.out.below.cell (p := ⟨bt, ot + r, none⟩) (World.block_lt_of_cell? w _ hu0)).trans hu0
          have hI2 : IntsAt w u (t.row r) := hI
          obtain ⟨Au, cu, rfl, hu1, hu2, huc⟩ := hI2.open_
          obtain ⟨bu, ou, rfl, huc'⟩ := huc (by have := HG.out.g1; omega)
          have HUC := Lib.hid huc'
          have hat : ∀ c, (t.row r).getD c 0 = t.at r c := fun _ => rfl
          have HI0 : Hid (ImgS w wr B gn (fun c => colTo t c (if c < 0 then r + 1 else r)) vs) := Lib.hid (by simpa using HI.out)
          have HN := Lib.hid hrl
          rw [hrl] at hu
          clear hu0 hI hI2 huc huc' hrl hu1 hu2
          go_wp2_with fail
          go_loopw [34] (fun i wr2 => ∃ c : Nat, i = .int .i64 (c : Int) ∧ c ≤ gn ∧ ∃ vs, Hid (ImgS w wr2 B gn (fun d => colTo t d (if d < c then r + 1 else r)) vs)) (fun i _ => gn - (intOf i).toNat)
          case atStart => exact ⟨0, rfl, by omega, _, HI0⟩
          case round =>
            clear HI HI0 hu
            rename World => wr
            obtain ⟨c, rfl, hc, vs, HI⟩ := hrel
            have hc0 : (0 : Int) ≤ (c : Int) := Int.natCast_nonneg _
            by_cases hcg : c < gn
            · have hcg' : (c : Int) < (gn : Int) := by omega
              have hI1 := HI.out.below' (w' := wr.drew) (Below.refl wr.heap.size wr).drew
              obtain ⟨A8, c8, w8, hrun, hc8, hf8, hI8⟩ := hI1.push hcg (t.at r (2 * c)) (by simp [length_colTo]; omega)
              have hv0 := hI1.cell hcg
              have hbl : Below wr.drew.heap.size wr.drew (wr.drew.alloc (.cells #[.int .i64 (t.at r (2 * c))] 3)) := (Below.refl _ _).alloc (Nat.le_refl _) _
              have hv1 := (hI1.below' hbl).cell hcg
              have hcs0 := HUC.out (2 * c) (by rw [HN.out]; omega)
              have hcs := (hI1.below.cell (p := ⟨bu, ou + 2 * c, none⟩) (World.block_lt_of_cell? w _ hcs0)).trans hcs0
              rw [hat] at hcs
              have hlen : (colTo t c (if c < c then r + 1 else r)).length = r := by rw [if_neg (by omega), length_colTo]
              rw [hlen] at hrun hI8
              have hI9 : ImgS w (w8.setCell ⟨B, c, none⟩ (.slice A8 (r + 1) c8)) B gn (fun d => colTo t d (if d < c + 1 then r + 1 else r)) (fun d => if d = c then .slice A8 (r + 1) c8 else vs d) := by
                have e : (fun d => if d = c then colTo t c (if c < c then r + 1 else r) ++ [t.at r (2 * c)] else colTo t d (if d < c then r + 1 else r)) = (fun d => colTo t d (if d < c + 1 then r + 1 else r)) := by
                  funext d
                  by_cases h : d = c
                  · subst h
                    rw [if_pos rfl, if_neg (by omega), if_pos (by omega), colTo_succ]
                  · rw [if_neg h]
                    by_cases h2 : d < c
                    · rw [if_pos h2, if_pos (by omega)]
                    · rw [if_neg h2, if_neg (by omega)]
                rw [← e]
                exact hI8
              have HRUN := Lib.hid hrun
              have HC8 := Lib.hid hc8
              have HF8 := Lib.hid hf8
              have HV0 := Lib.hid hv0
              have HV1 := Lib.hid hv1
              have HY := Lib.hid hcs
              have HI9 : Hid (∃ vs, ImgS w (w8.setCell ⟨B, c, none⟩ (.slice A8 (r + 1) c8)) B gn (fun d => colTo t d (if d < c + 1 then r + 1 else r)) vs) := Lib.hid ⟨_, hI9⟩
              have HIX : Hid (∀ W, (Instr.indexAt 24 (.slice (some ⟨bu, ou, none⟩) (2 * gn) cu) (.int .i64 (2 * (c : Int)))).run Try.prog W = .ok (.pointer (some ⟨bu, ou + 2 * c, none⟩)) W) := Lib.hid fun W => idx_off Try.underlying24 size3 bu ou (2 * gn) cu (2 * c) _ (by omega) (by omega) W
              clear hI1 hrun hc8 hf8 hI8 hv0 hbl hv1 hcs0 hcs hlen hI9
              generalize t.at r (2 * c) = y at *
              generalize vs c = vc at *
              go_wp2_with fail
              refine (wpIn_wide (n := 3)).1 ?_
              refine wpIn_region_all (by kernel_rfl) 15 rfl (fun i => if i < 14 then some (37 + i) else none) (lex_of (by kernel_rfl)) (fun ls W => W = bif ls 14 then w8.setCell ⟨B, c, none⟩ (.slice A8 (r + 1) c8) else bif ls 12 then w8 else bif ls 11 then wr.drew.alloc (.cells #[.int .i64 y] 3) else wr.drew)
                (fun i v _ => v = ([.slice (some ⟨B, 0, none⟩) gn gn, .int .i64 (c : Int), .slice (some ⟨B, 0, none⟩) gn gn, .int .i64 (c : Int), .pointer (some ⟨B, c, none⟩), vc, .slice (some ⟨bu, ou, none⟩) (2 * gn) cu, .int .i64 (c : Int), .int .i64 (2 * (c : Int)), .pointer (some ⟨bu, ou + 2 * c, none⟩), .int .i64 y, .slice (some ⟨wr.heap.size, 0, none⟩) 1 1, .slice A8 (r + 1) c8, .pointer (some ⟨B, c, none⟩), undef] : List Value).getD i undef) (fun _ _ _ => True) (dm_inj (by kernel_rfl)) (fun _ _ _ _ _ _ _ _ _ h => h) (dm_lt (n := 54) (by kernel_rfl)) rfl ?_ ?_
              · intro ls q o a w2 hq ho hS2 hls hcl hP hpre
                have hcases : q = 0 ∨ q = 1 ∨ q = 2 ∨ q = 3 ∨ q = 4 ∨ q = 5 ∨ q = 6 ∨ q = 7 ∨ q = 8 ∨ q = 9 ∨ q = 10 ∨ q = 11 ∨ q = 12 ∨ q = 13 ∨ q = 14 := by
                  have : q < 15 := hq
                  omega
                rcases hcases with rfl | rfl | rfl | rfl | rfl | rfl | rfl | rfl | rfl | rfl | rfl | rfl | rfl | rfl | rfl
                · obtain rfl := Option.some.inj ho
                  exact wpOpIn_of rfl rfl (wpW_val (r_move (.tmp 8) rfl (hP.out 8 (dm_out (by kernel_rfl)))) ⟨_, rfl, hS2, trivial, (fun h => by simp at h), rfl⟩)
                · obtain rfl := Option.some.inj ho
                  exact wpOpIn_of rfl rfl (wpW_val (r_move (.tmp 11) rfl (hP.out 11 (dm_out (by kernel_rfl)))) ⟨_, rfl, hS2, trivial, (fun h => by simp at h), rfl⟩)
                · obtain rfl := Option.some.inj ho
                  exact wpOpIn_of rfl rfl (wpW_val (r_move (.tmp 8) rfl (hP.out 8 (dm_out (by kernel_rfl)))) ⟨_, rfl, hS2, trivial, (fun h => by simp at h), rfl⟩)
                · obtain rfl := Option.some.inj ho
                  exact wpOpIn_of rfl rfl (wpW_val (r_move (.tmp 11) rfl (hP.out 11 (dm_out (by kernel_rfl)))) ⟨_, rfl, hS2, trivial, (fun h => by simp at h), rfl⟩)
                · obtain rfl := Option.some.inj ho
                  exact wpOpIn_of rfl rfl (wpW_val (r_idx (.tmp 39) (.tmp 40) _ _ rfl (hpre ⟨2, .data⟩ (by simp) rfl).2 (hpre ⟨3, .data⟩ (by simp) rfl).2 (idx_sl Try.underlying22 size24 B gn gn c hcg _)) ⟨_, rfl, hS2, trivial, (fun h => by simp at h), rfl⟩)
                · obtain rfl := Option.some.inj ho
                  have h12 := not_yet hcl 12 rfl ⟨5, .data⟩ (by simp) rfl hls
                  have h14 := not_yet hcl 14 rfl ⟨12, .data⟩ (by simp) rfl h12
                  have hc5 : w2.cell? ⟨B, c, none⟩ = some vc := by rw [hS2, h12, h14]; cases ls 11 <;> first | exact HV0.out | exact HV1.out
                  exact wpOpIn_of rfl rfl (wpW_val (r_load1 24 agg24 (.tmp 41) ⟨B, c, none⟩ rfl (hpre ⟨4, .data⟩ (by simp) rfl).2 hc5) ⟨_, rfl, hS2, trivial, (fun h => by simp at h), rfl⟩)
                · obtain rfl := Option.some.inj ho
                  exact wpOpIn_of rfl rfl (wpW_val (r_move (.tmp 10) rfl (hP.out 10 (dm_out (by kernel_rfl)))) ⟨_, rfl, hS2, trivial, (fun h => by simp at h), rfl⟩)
                · obtain rfl := Option.some.inj ho
                  exact wpOpIn_of rfl rfl (wpW_val (r_move (.tmp 11) rfl (hP.out 11 (dm_out (by kernel_rfl)))) ⟨_, rfl, hS2, trivial, (fun h => by simp at h), rfl⟩)
                · obtain rfl := Option.some.inj ho
                  exact wpOpIn_of rfl rfl (wpW_val (r_mul2 (.tmp 44) c (by omega) rfl (hpre ⟨7, .data⟩ (by simp) rfl).2) ⟨_, rfl, hS2, trivial, (fun h => by simp at h), rfl⟩)
                · obtain rfl := Option.some.inj ho
                  exact wpOpIn_of rfl rfl (wpW_val (r_idx (.tmp 43) (.tmp 45) _ _ rfl (hpre ⟨6, .data⟩ (by simp) rfl).2 (hpre ⟨8, .data⟩ (by simp) rfl).2 (HIX.out _)) ⟨_, rfl, hS2, trivial, (fun h => by simp at h), rfl⟩)
                · obtain rfl := Option.some.inj ho
                  have h11 := not_yet hcl 11 rfl ⟨10, .data⟩ (by simp) rfl hls
                  have h12 := not_yet hcl 12 rfl ⟨11, .data⟩ (by simp) rfl h11
                  have h14 := not_yet hcl 14 rfl ⟨12, .data⟩ (by simp) rfl h12
                  have hc5 : w2.cell? ⟨bu, ou + 2 * c, none⟩ = some (.int .i64 y) := by rw [hS2, h12, h14, h11]; exact HY.out
                  exact wpOpIn_of rfl rfl (wpW_val (r_load1 3 agg3 (.tmp 46) ⟨bu, ou + 2 * c, none⟩ rfl (hpre ⟨9, .data⟩ (by simp) rfl).2 hc5) ⟨_, rfl, hS2, trivial, (fun h => by simp at h), rfl⟩)
                · obtain rfl := Option.some.inj ho
                  have h12 := not_yet hcl 12 rfl ⟨11, .data⟩ (by simp) rfl hls
                  have h14 := not_yet hcl 14 rfl ⟨12, .data⟩ (by simp) rfl h12
                  rw [h12, h14, hls] at hS2
                  have hS3 : w2 = wr.drew := hS2
                  subst hS3
                  exact wpOpIn_of rfl rfl (wpW_val (r_bs24 (.tmp 47) y rfl (hpre ⟨10, .data⟩ (by simp) rfl).2) ⟨_, rfl, (by rw [show (fun j => if 11 = j then true else ls j) 14 = false from h14, show (fun j => if 11 = j then true else ls j) 12 = false from h12]; rfl), trivial, (fun h => by simp at h), rfl⟩)
                · obtain rfl := Option.some.inj ho
                  have h14 := not_yet hcl 14 rfl ⟨12, .data⟩ (by simp) rfl hls
                  have h11 : ls 11 = true := (hpre ⟨11, .data⟩ (by simp) rfl).1
                  rw [h14, hls, h11] at hS2
                  have hS3 : w2 = wr.drew.alloc (.cells #[.int .i64 y] 3) := hS2
                  subst hS3
                  exact wpOpIn_of rfl rfl (wpW_val (r_app (.tmp 42) (.tmp 48) 24 rfl (hpre ⟨5, .data⟩ (by simp) rfl).2 (hpre ⟨11, .data⟩ (by simp) rfl).2 HRUN.out) ⟨_, rfl, (by rw [show (fun j => if 12 = j then true else ls j) 14 = false from h14]; rfl), trivial, (fun h => by simp at h), rfl⟩)
                · obtain rfl := Option.some.inj ho
                  exact wpOpIn_of rfl rfl (wpW_val (r_idx (.tmp 37) (.tmp 38) _ _ rfl (hpre ⟨0, .data⟩ (by simp) rfl).2 (hpre ⟨1, .data⟩ (by simp) rfl).2 (idx_sl Try.underlying22 size24 B gn gn c hcg _)) ⟨_, rfl, hS2, trivial, (fun h => by simp at h), rfl⟩)
                · obtain rfl := Option.some.inj ho
                  have h12 : ls 12 = true := (hpre ⟨12, .data⟩ (by simp) rfl).1
                  rw [hls, h12] at hS2
                  have hS3 : w2 = w8 := hS2
                  subst hS3
                  exact wpOpIn_of rfl rfl (wpW_skip (r_store1 24 (.tmp 50) (.tmp 49) ⟨B, c, none⟩ _ _ rfl (hpre ⟨13, .data⟩ (by simp) rfl).2 (hpre ⟨12, .data⟩ (by simp) rfl).2 rfl HC8.out HF8.out (st24 _ _ A8 _ c8 HC8.out HF8.out)) ⟨undef, rfl, rfl, trivial, fun _ => rfl, rfl⟩)
              · intro ls a w2 hall hS2 hP hsl
                have h14 : ls 14 = true := hall 14 (by decide)
                rw [h14] at hS2
                obtain ⟨vs, hvs, hfr⟩ := hP.frame 54 rfl
                clear hsl hP hall h14 hvs HV0 HV1 HC8 HF8 HRUN HY
                subst hfr
                subst hS2
                simp only [List.range, List.range.loop, List.map_cons, List.map_nil, List.any_cons, List.any_nil, Nat.reduceAdd, Nat.reduceBEq, Nat.reduceLT, Option.some_beq_some, Bool.or_false, if_true, if_false, List.getD_cons_zero, List.getD_cons_succ, cond_true]
                generalize hw2 : w8.setCell ⟨B, c, none⟩ (.slice A8 (r + 1) c8) = w9 at *
                clear hw2
                obtain ⟨vs9, hI9⟩ := HI9.out
                have HI10 := Lib.hid hI9
                clear hI9
                go_wp2_with fail
                go_roundw
                case rel => exact ⟨c + 1, by go_num, by omega, _, HI10⟩
                case measure => simp [intOf]; omega
            · obtain rfl : c = gn := by omega
              have HI10 : Hid (∃ vs, ImgS w wr B c (fun d => colTo t d (r + 1)) vs) := Lib.hid ⟨vs, ⟨HI.out.below, HI.out.ge, HI.out.blk, fun d hd => by
                have := HI.out.row d hd
                rwa [if_pos hd] at this, HI.out.ap⟩⟩
              obtain ⟨vs9, hI9⟩ := HI10.out
              have HI11 := Lib.hid hI9
              clear hI9 HI10
              go_wp2_with fail
              go_roundw
              case rel => exact ⟨r + 1, by go_num, by omega, _, HI11⟩
              case measure => simp [intOf]; omega
        · obtain rfl : r = t.length := by omega
          have HT2 : Hid (Tab wr (.slice (some ⟨B, 0, none⟩) gn gn) (imgTo t gn)) := Lib.hid (HI.out.tab (fun c hc => fits_colTo HG.out hc (Nat.le_refl _)) (by omega))
          have HB2 := Lib.hid HI.out.below
          go_wp2_with fail
          go_ret2
          exact ⟨⟨_, ret_of2 rfl (by rw [HE.out]), by rw [HE.out]; exact HT2.out⟩, HB2.out⟩
  · have HE : Hid (imgE g t = ([], (check g t).1)) := Lib.hid (by unfold imgE; rw [if_pos h1])
    have hx : ((check g t).1 != 0) = true := by simpa using h1
    unfold CheckPost at HC
    unfold ImgPost
    clear HT h1 ht hc
    generalize imgE g t = X at *
    generalize (check g t).1 = e1 at *
    generalize (check g t).2 = e2 at *
    go_enter Try.func53, Try.ntmps53
    go_wp2_with (go_at_call 43; (refine HC.out.mono ?_); rintro e w' ⟨rfl, hb⟩; have HB := Lib.hid hb; clear hb)
    go_ret2
    exact ⟨⟨_, ret_of2 rfl (by rw [HE.out]), by rw [HE.out]; exact tab_nil⟩, HB.out⟩
end Go.Proofs
namespace Go.Proofs
open Go.RowKit Go.Shelf Go.Proofs.Ct Go.Maps
theorem std48_any (w : World) (v : Value) (g : Int) (t : Tb) (b : Int) (ht : Tab w v t) : Calls Try.prog 48 #[.int .i64 g, v, .int .i64 b] w (StdPost g t b w) := by
  by_cases h : (check g t).1 ≠ 0 ∨ b < 0 ∨ (t.length : Int) ≤ b
  · exact std48_bad w v g t b ht h
  · have h1 : (check g t).1 = 0 := by
      by_cases h2 : (check g t).1 = 0
      · exact h2
      · exact absurd (.inl h2) h
    obtain ⟨h0, hg, -⟩ := check_good h1
    have e : g = ((g.toNat : Nat) : Int) := by omega
    rw [e]
    exact std48_good w v g.toNat t b ht hg (by omega) (by omega)
end Go.Proofs
namespace Go.Proofs
open Go.RowKit Go.Shelf Go.Proofs.Ct Go.Maps
theorem cells49 {w : World} {b : Nat} {x y z : Value} (h : w.heap[b]? = some (.cells #[x, y, z] 49 (0, 0))) : w.cell? ⟨b, 0, none⟩ = some x ∧ w.cell? ⟨b, 1, none⟩ = some y ∧ w.cell? ⟨b, 2, none⟩ = some z := by
  refine ⟨?_, ?_, ?_⟩ <;> (rw [cell_of_row _ _ _ _ _ _ h]; rfl)
end Go.Proofs
