/- The walk of RewriteKnown; The laws of chapter 18: long, vast, small, three, awake; Trace of both; plain; the reference's Images. -/
import Derived.Test.YtcfighimnkfmeaaCtCS8
import Derived.Test.YtcfighimnkfmeaaCtCS13
import Derived.Test.YtcfighimnkfmeaaCtCS5
namespace Go.Proofs
open Go.RowKit Go.Shelf Go.Proofs.Ct Go.Maps
def smallT : List (List Int) := [[1, 1], [2, 2, 2], [1, 2, 1, 2]]
theorem ints_blk {w : World} {b : Nat} {xs : List Int} (h : w.heap[b]? = some (.cells (ints xs).toArray 3 (0, 0))) (hf : Fits xs) {n : Nat} (hn : xs.length = n) (hm : n ≤ 1000) : IntsAt w (.slice (some ⟨b, 0, none⟩) n n) xs := by
  subst hn
  have hl : xs.length ≤ 9223372036854775807 := by omega
  refine ⟨⟨_, xs.length, xs.length, rfl, by simp [ints], Nat.le_refl _, by simpa [maxLen] using hl, fun _ => ⟨b, 0, rfl, fun j u hu => ?_⟩⟩, hf⟩
  rw [cell_of_row _ _ _ _ _ _ h, Nat.zero_add]
  simpa using hu
/-- rows in a block -/
theorem tab_blk {w : World} {b : Nat} {us : List Value} {xs : List (List Int)} {e : TypeId} (hb : w.heap[b]? = some (.cells us.toArray e (0, 0))) {n : Nat} (hn : us.length = n) (hl : us.length = xs.length) (hm : us.length ≤ 1000) (h : ∀ i, i < xs.length → IntsAt w (us.getD i undef) (xs.getD i [])) :
    Tab w (.slice (some ⟨b, 0, none⟩) n n) xs := by
  subst hn
  have hl9 : us.length ≤ 9223372036854775807 := by omega
  refine ⟨us, ⟨_, us.length, us.length, rfl, rfl, Nat.le_refl _, by simpa [maxLen] using hl9, fun _ => ⟨b, 0, rfl, fun j u hu => ?_⟩⟩, hl, fun i hi => ?_⟩
  · rw [cell_of_row _ _ _ _ _ _ hb, Nat.zero_add]
    simpa using hu
  · have hi' : i < us.length := by omega
    refine ⟨us.getD i undef, ?_, h i hi⟩
    simp [List.getD_eq_getElem?_getD, hi']
theorem fits_lit {xs : List Int} (h : (xs.all fun x => decide (-1000 ≤ x) && decide (x ≤ 1000)) = true) : Fits xs := fun x hx => by
  have := List.all_eq_true.1 h x hx
  simp at this
  omega
theorem build40s (g : Int) (A : Option Addr) (n c : Nat) (w : World) : (Instr.build 40 #[(0, .int .i64 g), (1, .slice A n c)]).run Try.prog w = .ok (.agg #[.int .i64 g, .slice A n c]) w := by kernel_rfl
section
variable {o : Oper} {a : Act} {w w' : World} {n : Nat} {v : Value}
theorem r_build40s (x y : Operand) (g : Int) (A : Option Addr) (m c : Nat) (ho : o.op = .build 40 #[(0, x), (1, y)]) (hx : a.eval x = .int .i64 g) (hy : a.eval y = .slice A m c) : (execOp a.eval o).run Try.prog w = .ok (.value (.agg #[.int .i64 g, .slice A m c])) w := by
  have hb := build40s g A m c w
  unfold execOp
  simp only [ho, List.map_toArray, List.map_cons, List.map_nil, hx, hy, Sem.run_bind, hb, Result.andThen_ok]
  rfl
end
theorem results_40 {fn : Func} {p : Tmp} (h : fn.results = #[.cell p 40]) (tmps : Array Value) (w : World) (g : Nat) (cs : Array Value)
    (hp : tmps.getD p undef = .pointer (some ⟨g, 0, none⟩)) (hg : w.heap[g]? = some (.cells cs 40 (0, 0))) (hs : cs.size = 2) :
    (results fn tmps).run Try.prog w = .ok (.agg cs) w := by
  have hp' : tmps[p]?.getD undef = .pointer (some ⟨g, 0, none⟩) := by simpa using hp
  simp [results, h, hp', asAddr, run_loadVar_row w g 40 40 cs (0, 0) _ hg Try.underlying40 rfl (by rw [hs]; exact info40s)]
def PresAt (g : Int) (l : List (List Int)) (w : World) (e : Ending) (w' : World) : Prop := (∃ A c, e = .returned (.agg #[.int .i64 g, .slice A l.length c]) ∧ Tab w' (.slice A l.length c) l) ∧ Below w.heap.size w w'
/-- what a slot of the drawn region holds -/
inductive SP where
  | eq (v : Value) | ints (l : List Int) | tab (l : List (List Int)) | pres (g : Int) (l : List (List Int)) | any
def SP.holds : SP → Value → World → Prop
  | .eq u, v, _ => v = u
  | .ints l, v, w => IntsAt w v l
  | .tab l, v, w => ∃ A c, v = .slice A l.length c ∧ Tab w v l
  | .pres g l, v, w => ∃ A c, v = .agg #[.int .i64 g, .slice A l.length c] ∧ Tab w (.slice A l.length c) l
  | .any, _, _ => True
theorem SP.keep {s : SP} {v : Value} {w w' : World} (h : Below w.heap.size w w') : s.holds v w → s.holds v w' := by
  cases s with
  | eq u => exact id
  | ints l => exact fun k => k.below h
  | tab l => exact fun ⟨A, c, e, k⟩ => ⟨A, c, e, kept_tab.below k h⟩
  | pres g l => exact fun ⟨A, c, e, k⟩ => ⟨A, c, e, kept_tab.below k h⟩
  | any => exact id
section
variable {o : Oper} {a : Act} {w w' : World} {n : Nat} {v : Value}
end
end Go.Proofs
namespace Go.Proofs
open Go.RowKit Go.Shelf Go.Proofs.Ct Go.Maps
set_option maxRecDepth 100000 in
set_option maxHeartbeats 400000 in
theorem vast30_any (w : World) (v : Value) (t : Tb) (ht : Tab w v t) : Calls Try.prog 30 #[v] w fun e w' => SomeBool e ∧ w' = w := by
  obtain ⟨A, c, rfl, h1, h2, h3⟩ := ht.open_
  have HT := Lib.hid h3
  clear h3 ht
  have hn0 : (0 : Int) ≤ (t.length : Int) := Int.natCast_nonneg _
  go_enter Try.func30, Try.ntmps30
  go_wp2_with fail
  go_loopw [3] (fun i wr => ∃ k : Nat, i = .int .i64 k ∧ k ≤ t.length ∧ k ≤ 61 ∧ wr = w) (fun i _ => t.length - (intOf i).toNat)
  case atStart => exact ⟨0, rfl, by omega, by omega, rfl⟩
  case round =>
    obtain ⟨k, rfl, hk, hk61, rfl⟩ := hrel
    have hk0 : (0 : Int) ≤ (k : Int) := Int.natCast_nonneg _
    by_cases hlt : k < t.length
    · have hlt' : (k : Int) < (t.length : Int) := by omega
      by_cases h61 : k < 61
      · have h61' : (k : Int) < 61 := by omega
        obtain ⟨b, o, rfl, hcc⟩ := HT.out (by omega)
        obtain ⟨u, hu, hI⟩ := hcc k hlt
        obtain ⟨Au, cu, rfl, -, -, -⟩ := hI.open_
        clear hcc hI
        generalize (t.getD k []).length = rl at *
        by_cases hr : 40 < rl
        · have hr' : (40 : Int) < (rl : Int) := by omega
          go_wp2_with fail
          go_ret
          exact ⟨⟨_, rfl⟩, (by first | trivial | rfl)⟩
        · have hr' : ¬ (40 : Int) < (rl : Int) := by omega
          go_wp2_with fail
          go_roundw
          case rel => exact ⟨k + 1, by go_num, by omega, by omega, (by first | trivial | rfl)⟩
          case measure => simp [intOf]; omega
      · have h61' : ¬ (k : Int) < 61 := by omega
        go_wp2_with fail
        go_ret
        exact ⟨⟨_, rfl⟩, (by first | trivial | rfl)⟩
    · have hlt' : ¬ (k : Int) < (t.length : Int) := by omega
      go_wp2_with fail
      go_ret
      exact ⟨⟨_, rfl⟩, (by first | trivial | rfl)⟩
set_option maxRecDepth 100000 in
theorem small55_any (w : World) : Calls Try.prog 55 #[] w (PresAt 2 smallT w) := by
  have hg : ∀ i o, [Obj.cells zero40 40, .cells (ints [1, 1]).toArray 3, .cells (ints [2, 2, 2]).toArray 3, .cells (ints [1, 2, 1, 2]).toArray 3, .cells #[.slice (some ⟨w.heap.size + 1, 0, none⟩) 2 2, .slice (some ⟨w.heap.size + 1 + 1, 0, none⟩) 3 3, .slice (some ⟨w.heap.size + 1 + 1 + 1, 0, none⟩) 4 4] 25][i]? = some o →
      (((((w.alloc (.cells zero40 40)).alloc (.cells (ints [1, 1]).toArray 3)).alloc (.cells (ints [2, 2, 2]).toArray 3)).alloc (.cells (ints [1, 2, 1, 2]).toArray 3)).alloc (.cells #[.slice (some ⟨w.heap.size + 1, 0, none⟩) 2 2, .slice (some ⟨w.heap.size + 1 + 1, 0, none⟩) 3 3, .slice (some ⟨w.heap.size + 1 + 1 + 1, 0, none⟩) 4 4] 25)).heap[w.heap.size + i]? = some o := fun i o h => allocs_get _ w i o h
  have hb : Below w.heap.size w (((((w.alloc (.cells zero40 40)).alloc (.cells (ints [1, 1]).toArray 3)).alloc (.cells (ints [2, 2, 2]).toArray 3)).alloc (.cells (ints [1, 2, 1, 2]).toArray 3)).alloc (.cells #[.slice (some ⟨w.heap.size + 1, 0, none⟩) 2 2, .slice (some ⟨w.heap.size + 1 + 1, 0, none⟩) 3 3, .slice (some ⟨w.heap.size + 1 + 1 + 1, 0, none⟩) 4 4] 25)) :=
    allocs_below [Obj.cells zero40 40, .cells (ints [1, 1]).toArray 3, .cells (ints [2, 2, 2]).toArray 3, .cells (ints [1, 2, 1, 2]).toArray 3, .cells #[.slice (some ⟨w.heap.size + 1, 0, none⟩) 2 2, .slice (some ⟨w.heap.size + 1 + 1, 0, none⟩) 3 3, .slice (some ⟨w.heap.size + 1 + 1 + 1, 0, none⟩) 4 4] 25] w w.heap.size (Nat.le_refl _)
  have HG := Lib.hid hg
  have HB := Lib.hid hb
  have HX := Lib.hid (hg 0 _ rfl)
  clear hg hb
  go_enter Try.func55, Try.ntmps55
  go_wp2_with (first
    | ((with_reducible refine wpList_sel 0 ?_); refine wpList_val rfl (r_alloc40 rfl) ?_)
    | ((with_reducible refine wpList_sel 5 ?_); refine wpList_val rfl (r_build40s _ (.tmp 4) 2 _ _ _ rfl rfl rfl) ?_; refine wpList_skip rfl (r_store40 (.tmp 0) (.tmp 5) rfl w.heap.size zero40 _ rfl rfl HX.out rfl rfl (one40 _ _ _ _)) ?_))
  try simp only [Exit.inBlock, Exit.then]
  refine bodyPost_ret (results_40 (p := 0) rfl _ _ w.heap.size _ rfl (setRow_heap _ _ _ _ _ _ HX.out) rfl) rfl ⟨⟨_, _, rfl, ?_⟩, below_setRow HB.out (Nat.le_refl _) _⟩
  refine tab_blk ((setRow_other _ _ _ _ (by omega)).trans (HG.out 4 _ rfl)) rfl rfl (by simp) fun i hi => ?_
  have hi3 : i = 0 ∨ i = 1 ∨ i = 2 := by simp [smallT] at hi; omega
  rcases hi3 with rfl | rfl | rfl
  · exact ints_blk ((setRow_other _ _ _ _ (by omega)).trans (HG.out 1 _ rfl)) (fits_lit (by decide)) rfl (by omega)
  · exact ints_blk ((setRow_other _ _ _ _ (by omega)).trans (HG.out 2 _ rfl)) (fits_lit (by decide)) rfl (by omega)
  · exact ints_blk ((setRow_other _ _ _ _ (by omega)).trans (HG.out 3 _ rfl)) (fits_lit (by decide)) rfl (by omega)
def threeT : List (List Int) := [[0, 0, 1, 2], [2, 2, 2, 0], [1, 1, 0, 1]]
theorem three56_any (w : World) : Calls Try.prog 56 #[] w fun e w' => (∃ u, e = .returned u ∧ Tab w' u threeT) ∧ Below w.heap.size w w' := by
  have h1 := ints_lit w [0, 0, 1, 2] (by unfold Fits; decide) 4 rfl (by omega)
  have h2 := ints_lit (w.alloc (.cells (ints [0, 0, 1, 2]).toArray 3)) [2, 2, 2, 0] (by unfold Fits; decide) 4 rfl (by omega)
  have h3 := ints_lit ((w.alloc (.cells (ints [0, 0, 1, 2]).toArray 3)).alloc (.cells (ints [2, 2, 2, 0]).toArray 3)) [1, 1, 0, 1] (by unfold Fits; decide) 4 rfl (by omega)
  have h4 := tab_three _ _ _ _ _ _ _ (h1.below (((Below.refl _ _).alloc (Nat.le_refl _) _).alloc (by simp) _)) (h2.below ((Below.refl _ _).alloc (Nat.le_refl _) _)) h3 (e := 24)
  have hb : Below w.heap.size w ((((w.alloc (.cells (ints [0, 0, 1, 2]).toArray 3)).alloc (.cells (ints [2, 2, 2, 0]).toArray 3)).alloc (.cells (ints [1, 1, 0, 1]).toArray 3)).alloc (.cells #[.slice (some ⟨w.heap.size, 0, none⟩) 4 4, .slice (some ⟨w.heap.size + 1, 0, none⟩) 4 4, .slice (some ⟨w.heap.size + 1 + 1, 0, none⟩) 4 4] 24)) :=
    (((((Below.refl _ _).alloc (Nat.le_refl _) _).alloc (by simp) _).alloc (by simp; omega) _).alloc (by simp; omega) _)
  simp only [World.size_alloc] at h4
  have H4 := Lib.hid h4
  have HB := Lib.hid hb
  clear h1 h2 h3 h4 hb
  go_enter Try.func56, Try.ntmps56
  go_wp2_with fail
  go_ret
  exact ⟨⟨_, rfl, H4.out⟩, HB.out⟩
theorem wake_enum : enumE 2 smallT [[1]] 100 = (threeT, (3, 3), 0) := by decide +kernel
/-- a list of one word of one letter -/
theorem one_word (w : World) (x : Int) (hx : -1000 ≤ x ∧ x ≤ 1000) : Tab ((w.alloc (.cells #[.int .i64 x] 3)).alloc (.cells #[.slice (some ⟨w.heap.size, 0, none⟩) 1 1] 25)) (.slice (some ⟨w.heap.size + 1, 0, none⟩) 1 1) [[x]] := by
  have h1 := ints_lit w [x] (fun y hy => by simp at hy; omega) 1 rfl (by omega)
  have hb : Below (w.alloc (.cells #[.int .i64 x] 3)).heap.size (w.alloc (.cells #[.int .i64 x] 3)) ((w.alloc (.cells #[.int .i64 x] 3)).alloc (.cells #[.slice (some ⟨w.heap.size, 0, none⟩) 1 1] 25)) := (Below.refl _ _).alloc (Nat.le_refl _) _
  have h2 := heap_alloc_new (w.alloc (.cells #[.int .i64 x] 3)) (.cells #[.slice (some ⟨w.heap.size, 0, none⟩) 1 1] 25)
  rw [World.size_alloc] at h2
  exact tab_blk (us := [.slice (some ⟨w.heap.size, 0, none⟩) 1 1]) h2 rfl rfl (by simp) fun i hi => by
    have : i = 0 := by simpa using hi
    subst this
    exact IntsAt.below h1 hb
theorem one_word_below (w : World) (x : Int) : Below w.heap.size w ((w.alloc (.cells #[.int .i64 x] 3)).alloc (.cells #[.slice (some ⟨w.heap.size, 0, none⟩) 1 1] 25)) := ((Below.refl _ _).alloc (Nat.le_refl _) _).alloc (by simp) _
set_option maxRecDepth 100000 in
set_option maxHeartbeats 1000000 in
theorem awake31_any (w : World) : Calls Try.prog 31 #[] w fun e w' => e = .returned (.bool true) ∧ Below w.heap.size w w' := by
  have HE := Lib.hid (fun W vr vs (h1 : Tab W vr smallT) (h2 : Tab W vs [[1]]) => (enum32_any W vr vs 2 smallT [[1]] 100 h1 h2 (fun j => by
      rcases j with _ | j
      · simp
      · simp) (by simp)).mono fun e w' (⟨⟨u, h1, h2⟩, h3⟩ : EnumPost 2 smallT [[1]] 100 W e w') => by
    rw [wake_enum] at h1 h2
    exact (⟨⟨u, h1, h2⟩, h3⟩ : (∃ u, e = .returned (.tuple #[u, .agg #[.int .i64 3, .int .i64 3, .int .i64 0], .int .i64 0]) ∧ Tab w' u threeT) ∧ Below W.heap.size W w'))
  have HS := Lib.hid fun (W : World) (a b : Value) (h1 : Tab W a threeT) (h2 : Tab W b threeT) => (same18_any W a b threeT threeT h1 h2)
  go_enter Try.func31, Try.ntmps31
  go_wp2_with (first
    | (go_at_call 55; (refine (small55_any _).mono ?_); rintro e w1 ⟨⟨A, c, rfl, ht⟩, hb⟩
       have HT1 := Lib.hid ht
       have HB1 := Lib.hid hb
       clear ht hb)
    | (go_at_call 32; (refine (HE.out _ _ _ (kept_tab.below HT1.out (one_word_below w1 1)) (one_word w1 1 (by omega))).mono ?_); rintro e w2 ⟨⟨u, rfl, ht⟩, hb⟩
       have HT2 := Lib.hid ht
       have HB2 := Lib.hid ((HB1.out.trans ((one_word_below w1 1).mono HB1.out.size)).trans (hb.mono (Nat.le_trans HB1.out.size (one_word_below w1 1).size)))
       obtain ⟨A2, c2, rfl⟩ := Tab.form ht
       have HBa : Hid (Below w2.heap.size w2 (w2.alloc (.cells #[.int .i64 3, .int .i64 3, .int .i64 0] 49))) := Lib.hid ((Below.refl _ _).alloc (Nat.le_refl _) _)
       clear ht hb)
    | (go_at_call 56; (refine (three56_any _).mono ?_); rintro e w3 ⟨⟨u3, rfl, ht⟩, hb⟩
       have HT3 := Lib.hid ht
       have HB3 := Lib.hid (HBa.out.trans (hb.mono HBa.out.size))
       clear ht hb)
    | (go_at_call 34; (refine (HS.out _ _ _ (kept_tab.below HT2.out HB3.out) HT3.out).mono ?_); rintro e w4 ⟨rfl, q, rfl⟩))
  go_ret
  exact ⟨ret_bool (by simp), below_drewN (HB2.out.trans (HB3.out.mono HB2.out.size)) _⟩
end Go.Proofs
namespace Go.Proofs
open Go.RowKit Go.Shelf Go.Proofs.Ct Go.Maps
def traceE (g : Int) (t : Tb) (r : Int) (ws : List Int) : Int × Bool :=
  if (check g t).1 ≠ 0 then (0, false) else
  if r < 0 ∨ (t.length : Int) ≤ r then (0, false) else
  if (ws.any (letBad g.toNat)) = true then (0, false) else
  (if leads t r ws < 0 then 0 else leads t r ws, decide (0 ≤ leads t r ws))
def TracePostE (g : Int) (t : Tb) (r : Int) (ws : List Int) (w : World) (e : Ending) (w' : World) : Prop :=
  e = .returned (.tuple #[.int .i64 (traceE g t r ws).1, .bool (traceE g t r ws).2]) ∧ Below w.heap.size w w'
set_option maxRecDepth 100000 in
set_option maxHeartbeats 1000000 in
theorem trace40_any (w : World) (v u : Value) (g : Int) (t : Tb) (r : Int) (ws : List Int) (ht : Tab w v t) (hu : IntsAt w u ws) : Calls Try.prog 40 #[.int .i64 g, v, .int .i64 r, u] w (TracePostE g t r ws w) := by
  have HC := Lib.hid (check43_any w v g t ht)
  have HT := Lib.hid ht
  have HU := Lib.hid hu
  obtain ⟨A, c, rfl, hc1, hc2, hc⟩ := ht.open_
  obtain ⟨Au, cu, rfl, -, -, -⟩ := hu.open_
  clear hc ht hu
  unfold TracePostE
  by_cases h1 : (check g t).1 = 0
  · obtain ⟨h0, hg, -⟩ := check_good h1
    obtain ⟨gn, rfl⟩ : ∃ n : Nat, g = n := ⟨g.toNat, by omega⟩
    rw [Int.toNat_natCast] at hg
    have hck := check_of_good hg
    have HC' : Hid (Calls Try.prog 43 #[.int .i64 (gn : Int), .slice A t.length c] w fun e w' => e = .returned (.tuple #[.int .i64 0, .int .i64 (-1)]) ∧ Below w.heap.size w w') := Lib.hid (HC.out.mono fun e w' ⟨h2, h3⟩ => by rw [hck] at h2; exact ⟨h2, h3⟩)
    have hg16 := hg.g16
    by_cases h2 : r < 0
    · have HE : Hid (traceE (gn : Int) t r ws = (0, false)) := Lib.hid (by unfold traceE; rw [if_neg (by omega), if_pos (.inl h2)])
      clear HC h1 h0 hck hg HT HU
      generalize traceE (gn : Int) t r ws = X at *
      go_enter Try.func40, Try.ntmps40
      go_wp2_with (go_at_call 43; (refine HC'.out.mono ?_); rintro e w' ⟨rfl, hb⟩; have HB := Lib.hid hb; clear hb)
      go_ret2
      exact ⟨ret_ib (by rw [HE.out]) (by rw [HE.out]), HB.out⟩
    · by_cases h3 : (t.length : Int) ≤ r
      · have HE : Hid (traceE (gn : Int) t r ws = (0, false)) := Lib.hid (by unfold traceE; rw [if_neg (by omega), if_pos (.inr h3)])
        clear HC h1 h0 hck hg HT HU
        generalize traceE (gn : Int) t r ws = X at *
        go_enter Try.func40, Try.ntmps40
        go_wp2_with (go_at_call 43; (refine HC'.out.mono ?_); rintro e w' ⟨rfl, hb⟩; have HB := Lib.hid hb; clear hb)
        go_ret2
        exact ⟨ret_ib (by rw [HE.out]) (by rw [HE.out]), HB.out⟩
      · obtain ⟨rn, rfl⟩ : ∃ n : Nat, r = n := ⟨r.toNat, by omega⟩
        have hr : rn < t.length := by omega
        have HF : Hid (∀ w', Below w.heap.size w w' → Calls Try.prog 83 #[.int .i64 (gn : Int), .slice Au ws.length cu] w' fun e w'' => e = .returned (.bool (!(ws.any (letBad gn)))) ∧ Below w'.heap.size w' w'') := Lib.hid fun w' hb => fine83_any w' gn _ ws hg16 (kept_ints.below HU.out hb)
        by_cases h4 : ws.any (letBad gn) = true
        · have HE : Hid (traceE (gn : Int) t (rn : Int) ws = (0, false)) := Lib.hid (by unfold traceE; rw [if_neg (by omega), if_neg (by omega), if_pos (by simpa using h4)])
          rw [h4] at HF
          clear HC h1 h0 hck hg HT HU h4
          generalize traceE (gn : Int) t (rn : Int) ws = X at *
          go_enter Try.func40, Try.ntmps40
          go_wp2_with (first
            | (go_at_call 43; (refine HC'.out.mono ?_); rintro e w' ⟨rfl, hb⟩; have HB := Lib.hid hb; clear hb)
            | (go_at_call 83; (refine (HF.out _ HB.out).mono ?_); rintro e w' ⟨rfl, hb⟩; have HB2 := Lib.hid (HB.out.trans (hb.mono HB.out.size)); clear hb))
          go_ret2
          exact ⟨ret_ib (by rw [HE.out]) (by rw [HE.out]), HB2.out⟩
        · have h4' : ws.any (letBad gn) = false := by simpa using h4
          have HE : Hid (traceE (gn : Int) t (rn : Int) ws = (if leads t rn ws < 0 then 0 else leads t rn ws, decide (0 ≤ leads t rn ws))) := Lib.hid (by unfold traceE; rw [if_neg (by omega), if_neg (by omega), if_neg (by simpa using h4)])
          have HW : Hid (∀ w', Below w.heap.size w w' → Calls Try.prog 94 #[.slice A t.length c, .int .i64 (rn : Int), .slice Au ws.length cu] w' (TracePost (leads t rn ws) w')) := Lib.hid fun w' hb => trace94_any w' _ _ gn t rn ws (kept_tab.below HT.out hb) (kept_ints.below HU.out hb) hg (letsOk_of h4') hr
          rw [h4'] at HF
          unfold TracePost at HW
          rw [HE.out]
          clear HC h1 h0 hck hg HT HU h4 h4' HE
          generalize leads t rn ws = l at *
          generalize decide (0 ≤ l) = y at *
          generalize (if l < 0 then 0 else l) = x at *
          go_enter Try.func40, Try.ntmps40
          go_wp2_with (first
            | (go_at_call 43; (refine HC'.out.mono ?_); rintro e w' ⟨rfl, hb⟩; have HB := Lib.hid hb; clear hb)
            | (go_at_call 83; (refine (HF.out _ HB.out).mono ?_); rintro e w' ⟨rfl, hb⟩; have HB2 := Lib.hid (HB.out.trans (hb.mono HB.out.size)); clear hb)
            | (go_at_call 94; (refine (HW.out _ HB2.out).mono ?_); rintro e w' ⟨rfl, q, rfl⟩))
          go_ret2
          exact ⟨rfl, below_drewN HB2.out q⟩
  · have HE : Hid (traceE g t r ws = (0, false)) := Lib.hid (by unfold traceE; rw [if_pos h1])
    have hx : ((check g t).1 != 0) = true := by simpa using h1
    unfold CheckPost at HC
    clear HT HU h1
    generalize traceE g t r ws = X at *
    generalize (check g t).1 = e1 at *
    generalize (check g t).2 = e2 at *
    go_enter Try.func40, Try.ntmps40
    go_wp2_with (go_at_call 43; (refine HC.out.mono ?_); rintro e w' ⟨rfl, hb⟩; have HB := Lib.hid hb; clear hb)
    go_ret2
    exact ⟨ret_ib (by rw [HE.out]) (by rw [HE.out]), HB.out⟩
set_option maxRecDepth 100000 in
set_option maxHeartbeats 1000000 in
theorem trace47_any (w : World) (v u : Value) (g : Int) (t : Tb) (r : Int) (ws : List Int) (ht : Tab w v t) (hu : IntsAt w u ws) : Calls Try.prog 47 #[.int .i64 g, v, .int .i64 r, u] w (TracePostE g t r ws w) := by
  have HC := Lib.hid (check44_any w v g t ht)
  have HT := Lib.hid ht
  have HU := Lib.hid hu
  obtain ⟨A, c, rfl, hc1, hc2, hc⟩ := ht.open_
  obtain ⟨Au, cu, rfl, -, -, -⟩ := hu.open_
  clear hc ht hu
  unfold TracePostE
  by_cases h1 : (check g t).1 = 0
  · obtain ⟨h0, hg, -⟩ := check_good h1
    obtain ⟨gn, rfl⟩ : ∃ n : Nat, g = n := ⟨g.toNat, by omega⟩
    rw [Int.toNat_natCast] at hg
    have hck := check_of_good hg
    have HC' : Hid (Calls Try.prog 44 #[.int .i64 (gn : Int), .slice A t.length c] w fun e w' => e = .returned (.tuple #[.int .i64 0, .int .i64 (-1)]) ∧ Below w.heap.size w w') := Lib.hid (HC.out.mono fun e w' ⟨h2, q, h3⟩ => by rw [hck] at h2; exact ⟨h2, h3 ▸ below_drewN (Below.refl _ _) q⟩)
    have hg16 := hg.g16
    by_cases h2 : r < 0
    · have HE : Hid (traceE (gn : Int) t r ws = (0, false)) := Lib.hid (by unfold traceE; rw [if_neg (by omega), if_pos (.inl h2)])
      clear HC h1 h0 hck hg HT HU
      generalize traceE (gn : Int) t r ws = X at *
      go_enter Try.func47, Try.ntmps47
      go_wp2_with (go_at_call 44; (refine HC'.out.mono ?_); rintro e w' ⟨rfl, hb⟩; have HB := Lib.hid hb; clear hb)
      go_ret2
      exact ⟨ret_ib (by rw [HE.out]) (by rw [HE.out]), HB.out⟩
    · by_cases h3 : (t.length : Int) ≤ r
      · have HE : Hid (traceE (gn : Int) t r ws = (0, false)) := Lib.hid (by unfold traceE; rw [if_neg (by omega), if_pos (.inr h3)])
        clear HC h1 h0 hck hg HT HU
        generalize traceE (gn : Int) t r ws = X at *
        go_enter Try.func47, Try.ntmps47
        go_wp2_with (go_at_call 44; (refine HC'.out.mono ?_); rintro e w' ⟨rfl, hb⟩; have HB := Lib.hid hb; clear hb)
        go_ret2
        exact ⟨ret_ib (by rw [HE.out]) (by rw [HE.out]), HB.out⟩
      · obtain ⟨rn, rfl⟩ : ∃ n : Nat, r = n := ⟨r.toNat, by omega⟩
        have hr : rn < t.length := by omega
        have HF : Hid (∀ w', Below w.heap.size w w' → Calls Try.prog 96 #[.int .i64 (gn : Int), .slice Au ws.length cu] w' fun e w'' => e = .returned (.bool (!(ws.any (letBad gn)))) ∧ w'' = w') := Lib.hid fun w' hb => letters96_any w' gn _ ws hg16 (kept_ints.below HU.out hb)
        by_cases h4 : ws.any (letBad gn) = true
        · have HE : Hid (traceE (gn : Int) t (rn : Int) ws = (0, false)) := Lib.hid (by unfold traceE; rw [if_neg (by omega), if_neg (by omega), if_pos (by simpa using h4)])
          rw [h4] at HF
          clear HC h1 h0 hck hg HT HU h4
          generalize traceE (gn : Int) t (rn : Int) ws = X at *
          go_enter Try.func47, Try.ntmps47
          go_wp2_with (first
            | (go_at_call 44; (refine HC'.out.mono ?_); rintro e w' ⟨rfl, hb⟩; have HB := Lib.hid hb; clear hb)
            | (go_at_call 96; (refine (HF.out _ HB.out).mono ?_); rintro e w' ⟨rfl, rfl⟩; have HB2 := HB))
          go_ret2
          exact ⟨ret_ib (by rw [HE.out]) (by rw [HE.out]), HB2.out⟩
        · have h4' : ws.any (letBad gn) = false := by simpa using h4
          have HE : Hid (traceE (gn : Int) t (rn : Int) ws = (if leads t rn ws < 0 then 0 else leads t rn ws, decide (0 ≤ leads t rn ws))) := Lib.hid (by unfold traceE; rw [if_neg (by omega), if_neg (by omega), if_neg (by simpa using h4)])
          have hl := letsOk_of h4'
          rw [h4'] at HF
          obtain ⟨A', c', e', h1', h2', h3'⟩ := HT.out.open_
          obtain ⟨rfl, -, rfl⟩ := Value.slice.inj e'
          obtain ⟨bt, ot, rfl, h4t⟩ := h3' (by omega)
          obtain ⟨Au', cu', e', hu1, hu2, hu3⟩ := HU.out.open_
          obtain ⟨rfl, -, rfl⟩ := Value.slice.inj e'
          have HTC := Lib.hid h4t
          have HUC := Lib.hid hu3
          have HG := Lib.hid hg
          have HL := Lib.hid hl
          have hrI : (rn : Int) < (t.length : Int) := by omega
          have hr0 : (0 : Int) ≤ (rn : Int) := Int.natCast_nonneg _
          have hn2 := hg.n2
          have HZ : Hid (∀ l, leads t rn ws = l → traceE (gn : Int) t (rn : Int) ws = (if l < 0 then 0 else l, decide (0 ≤ l))) := Lib.hid fun l h => by rw [HE.out, h]
          clear HC h1 h0 hck hg HT HU h4 h4' HE h4t hu3 h3' e' hl
          generalize traceE (gn : Int) t (rn : Int) ws = X at *
          have d1 : decide ((rn : Int) < 0) = false := decide_eq_false (by omega)
          have d2 : decide (t.length ≤ rn) = false := decide_eq_false (by omega)
          have d3 : decide ((t.length : Int) ≤ (rn : Int)) = false := decide_eq_false (by omega)
          go_enter Try.func47, Try.ntmps47
          go_wp2_with (first
            | (go_at_call 44; (refine HC'.out.mono ?_); rintro e w' ⟨rfl, hb⟩; have HB := Lib.hid hb; clear hb)
            | (go_at_call 96; (refine (HF.out _ HB.out).mono ?_); rintro e w' ⟨rfl, rfl⟩))
          rename World => wz
          go_loopw [2, 12] (fun f i wr => ∃ k s : Nat, i = .int .i64 k ∧ k ≤ ws.length ∧ f = .int .i64 (s : Int) ∧ s < t.length ∧ Hid ((s : Int) = leadTo t rn ws k) ∧ ∃ q, wr = wz.drewN q) (fun _ i _ => ws.length - (intOf i).toNat)
          case atStart => exact ⟨0, rn, rfl, by omega, rfl, hr, Lib.hid rfl, 0, rfl⟩
          case round =>
            obtain ⟨k, s, rfl, hk, rfl, hs, HS, q, rfl⟩ := hrel
            have hk0 : (0 : Int) ≤ (k : Int) := Int.natCast_nonneg _
            have hs0 : (0 : Int) ≤ (s : Int) := Int.natCast_nonneg _
            by_cases hlt : k < ws.length
            · have hlt' : (k : Int) < (ws.length : Int) := by omega
              have hsI : (s : Int) < (t.length : Int) := by omega
              obtain ⟨bw, ow, rfl, hcc⟩ := HUC.out (by omega)
              have hck0 := hcc k hlt
              have hck := (HB.out.cell (p := ⟨bw, ow + k, none⟩) (World.block_lt_of_cell? w _ hck0)).trans hck0
              obtain ⟨u, hu0, hI⟩ := HTC.out s hs
              have hu := (HB.out.cell (p := ⟨bt, ot + s, none⟩) (World.block_lt_of_cell? w _ hu0)).trans hu0
              have hI2 : IntsAt w u (t.row s) := hI
              obtain ⟨Ar, cr, rfl, hr1, hr2, hr3⟩ := hI2.open_
              have hx := HL.out.at_ hlt
              have hcol := col_lt hx
              have hrl := HG.out.len s hs
              obtain ⟨br, or', rfl, hrc⟩ := hr3 (by omega)
              have hcx0 := hrc (col (ws.getD k 0)) (by omega)
              have hcx := (HB.out.cell (p := ⟨br, or' + col (ws.getD k 0), none⟩) (World.block_lt_of_cell? w _ hcx0)).trans hcx0
              have hbd := HG.out.bd s hs _ hcol
              have HNX : Hid (leadTo t rn ws (k + 1) = (t.row s).getD (col (ws.getD k 0)) 0) := Lib.hid (by
                rw [leadTo_succ, ← HS.out, if_neg (by omega), Int.toNat_natCast]; rfl)
              have HNEG : Hid ((t.row s).getD (col (ws.getD k 0)) 0 < 0 → leads t rn ws < 0) := Lib.hid fun h => leads_neg (k := k + 1) (by omega) (by rw [HNX.out]; exact h)
              have HCO : Hid (∀ n, Calls Try.prog 108 #[.int .i64 (ws.getD k 0)] (wz.drewN n) fun e w' => e = .returned (.int .i64 (col (ws.getD k 0) : Nat)) ∧ wz.drewN n = w') := Lib.hid fun n => col108_any _ _ (by omega)
              have hc0 : (0 : Int) ≤ ((col (ws.getD k 0) : Nat) : Int) := Int.natCast_nonneg _
              have hc1 : ((col (ws.getD k 0) : Nat) : Int) < ((t.row s).length : Int) := by omega
              have hbd' : -1 ≤ (t.row s).getD (col (ws.getD k 0)) 0 ∧ (t.row s).getD (col (ws.getD k 0)) 0 < t.length := hbd
              clear hcc hI hI2 hr3 hrc hx hcol hrl hbd hck0 hu0 hcx0
              generalize (t.row s).getD (col (ws.getD k 0)) 0 = y at *
              generalize col (ws.getD k 0) = cx at *
              generalize ws.getD k 0 = x at *
              obtain ⟨hy1, hy2⟩ := hbd'
              by_cases hy : y < 0
              · have HLN := Lib.hid (HNEG.out hy)
                go_wp2_with fail
                go_quiet ((go_at_call 108; exact quiet_add_left (HCO.out _)))
                go_wp2_with fail
                go_ret2
                exact ⟨ret_ib (by rw [HZ.out _ rfl, if_pos HLN.out]) (by rw [HZ.out _ rfl]; have := HLN.out; simp; omega), below_drewN HB.out _⟩
              · obtain ⟨s', rfl⟩ : ∃ s' : Nat, y = s' := ⟨y.toNat, by omega⟩
                go_wp2_with fail
                go_quiet ((go_at_call 108; exact quiet_add_left (HCO.out _)))
                go_wp2_with fail
                go_roundw
                case rel => exact ⟨k + 1, s', by go_num, by omega, rfl, by omega, Lib.hid HNX.out.symm, (by first | exact ⟨_, rfl⟩ | exact ex_drewN)⟩
                case measure => simp [intOf]; omega
            · obtain rfl : k = ws.length := by omega
              have HZ2 : Hid ((s : Int) = leads t rn ws) := Lib.hid HS.out
              go_wp2_with fail
              go_ret2
              exact ⟨ret_ib (by rw [HZ.out _ HZ2.out.symm, if_neg (by omega)]) (by rw [HZ.out _ HZ2.out.symm]; simp), below_drewN HB.out _⟩
  · have HE : Hid (traceE g t r ws = (0, false)) := Lib.hid (by unfold traceE; rw [if_pos h1])
    have hx : ((check g t).1 != 0) = true := by simpa using h1
    unfold CheckPostQ at HC
    clear HT HU h1
    generalize traceE g t r ws = X at *
    generalize (check g t).1 = e1 at *
    generalize (check g t).2 = e2 at *
    go_enter Try.func47, Try.ntmps47
    go_wp2_with (go_at_call 44; (refine HC.out.mono ?_); rintro e w' ⟨rfl, q, rfl⟩; have HB := Lib.hid (below_drewN (Below.refl w.heap.size w) q))
    go_ret2
    exact ⟨ret_ib (by rw [HE.out]) (by rw [HE.out]), HB.out⟩
end Go.Proofs
namespace Go.Proofs
open Go.RowKit Go.Shelf Go.Proofs.Ct Go.Maps
theorem take_snoc {α : Type} {d : α} {l : List α} {k : Nat} (h : k < l.length) : l.take (k + 1) = l.take k ++ [l.getD k d] := by
  rw [List.take_add_one, List.getD_eq_getElem?_getD, List.getElem?_eq_getElem h]; rfl
set_option maxRecDepth 100000 in
set_option maxHeartbeats 1000000 in
theorem plain52_any (w : World) (v : Value) (l : List W) (ht : Tab w v l) (hl : l.length ≤ 1000000) : Calls Try.prog 52 #[v] w fun e w' => (∃ u, e = .returned u ∧ Tab w' u l) ∧ Below w.heap.size w w' := by
  obtain ⟨A, c, rfl, h1, h2, h3⟩ := ht.open_
  have HL := Lib.hid h3
  have h0 : OwnT 24 w.heap.size (fun k => k < w.heap.size) w (.slice none 0 0) [] := ⟨[], World.ownsRow_nil _ _ _ _, RowsF.nil _ _⟩
  have H0 := Lib.hid h0
  clear ht h3 h0
  go_enter Try.func52, Try.ntmps52
  go_wp2_with fail
  go_loopw [3, 4] (fun so i wr => ∃ k : Nat, i = .int .i64 k ∧ k ≤ l.length ∧ ∃ A c, so = .slice A k c ∧ Hid (OwnT 24 w.heap.size (fun k => k < w.heap.size) wr so (l.take k)) ∧ Hid (Below w.heap.size w wr)) (fun _ i _ => l.length - (intOf i).toNat)
  case atStart => exact ⟨0, rfl, by omega, none, 0, rfl, H0, Lib.hid (Below.refl _ _)⟩
  case round =>
    clear H0
    obtain ⟨k, rfl, hk, A2, c2, rfl, HO, HB⟩ := hrel
    have hk0 : (0 : Int) ≤ (k : Int) := Int.natCast_nonneg _
    by_cases hlt : k < l.length
    · have hlt' : (k : Int) < (l.length : Int) := by omega
      obtain ⟨b, o, rfl, hcc⟩ := HL.out (by omega)
      obtain ⟨u, hu0, hI⟩ := hcc k hlt
      have hu := (HB.out.cell (p := ⟨b, o + k, none⟩) (World.block_lt_of_cell? w _ hu0)).trans hu0
      have hI2 : IntsAt w u (l.getD k []) := hI
      obtain ⟨Ar, cr, rfl, -, -, -⟩ := hI2.open_
      have hF := (IntsF.of_at hI2).keep (Ag.below HB.out fun _ h => h)
      have hFs : ∀ j, j < w.heap.size → j < (wr.heap.size) ∧ (Value.slice A2 k c2).ownBlock ≠ some j := fun j hj => ⟨Nat.lt_of_lt_of_le hj HB.out.size, fun e => by
        obtain ⟨h1, -⟩ := OwnT.block HO.out j e
        omega⟩
      obtain ⟨A', c', w', hr, ho, hg, hw⟩ := push_row (ty := 23) Try.underlying23 info24p wr w.heap.size (fun k => k < w.heap.size) _ (l.take k) HO.out Ar (l.getD k []).length cr (l.getD k []) hF hFs (by rw [List.length_take]; omega) HB.out.size
      have hlk : (l.take k).length = k := by rw [List.length_take]; omega
      rw [hlk] at hr ho
      rw [← take_snoc hlt] at ho
      have HR := Lib.hid hr
      have HO' := Lib.hid ho
      have HB' : Hid (Below w.heap.size w w') := Lib.hid (HB.out.grown hg HB.out.size fun r hr => (OwnT.block HO.out r hr).1)
      clear hr ho hw hcc hI hI2 hF hFs hu0 hg
      generalize (l.getD k []).length = n at *
      go_wp2_with ((with_reducible refine wpList_sel 17 ?_); refine wpList_val rfl (r_app (.tmp 11) (.tmp 16) 23 rfl rfl rfl HR.out) ?_)
      go_roundw
      case rel => exact ⟨k + 1, by go_num, by omega, _, _, rfl, HO', HB'⟩
      case measure => simp [intOf]; omega
    · obtain rfl : k = l.length := by omega
      have ho := HO.out
      rw [List.take_of_length_le (Nat.le_refl _)] at ho
      have HT := Lib.hid ho.tab
      clear ho
      go_wp2_with fail
      go_ret
      exact ⟨⟨_, rfl, HT.out⟩, HB.out⟩
/-- the images of a generator at the first k cosets; of the first generators -/
def colTo (t : Tb) (c k : Nat) : List Int := (List.range k).map fun r => t.at r (2 * c)
theorem colTo_succ (t : Tb) (c k : Nat) : colTo t c (k + 1) = colTo t c k ++ [t.at k (2 * c)] := by simp [colTo, List.range_succ]
theorem length_colTo (t : Tb) (c k : Nat) : (colTo t c k).length = k := by simp [colTo]
def imgTo (t : Tb) (m : Nat) : Tb := (List.range m).map fun c => colTo t c t.length
theorem imgTo_succ (t : Tb) (m : Nat) : imgTo t (m + 1) = imgTo t m ++ [colTo t m t.length] := by simp [imgTo, List.range_succ]
theorem length_imgTo (t : Tb) (m : Nat) : (imgTo t m).length = m := by simp [imgTo]
def imgE (g : Int) (t : Tb) : Tb × Int :=
  if (check g t).1 ≠ 0 then ([], (check g t).1) else
  if complete t = false then ([], 13) else (imgTo t g.toNat, 0)
def ImgPost (g : Int) (t : Tb) (w : World) (e : Ending) (w' : World) : Prop := (∃ u, e = .returned (.tuple #[u, .int .i64 (imgE g t).2]) ∧ Tab w' u (imgE g t).1) ∧ Below w.heap.size w w'
theorem fits_colTo {g : Nat} {t : Tb} (hg : TGood g t) {c k : Nat} (hc : c < g) (hk : k ≤ t.length) : Fits (colTo t c k) := fun x hx => by
  obtain ⟨r, hr, rfl⟩ := List.mem_map.1 hx
  have := hg.bd r (by have := List.mem_range.1 hr; omega) (2 * c) (by omega)
  have := hg.n2
  omega
set_option maxRecDepth 100000 in
set_option maxHeartbeats 1000000 in
theorem img54_any (w : World) (v : Value) (g : Int) (t : Tb) (ht : Tab w v t) : Calls Try.prog 54 #[.int .i64 g, v] w (ImgPost g t w) := by
  have HC := Lib.hid (check44_any w v g t ht)
  have HT := Lib.hid ht
  obtain ⟨A, c, rfl, hc1, hc2, hc⟩ := ht.open_
  by_cases h1 : (check g t).1 = 0
  · obtain ⟨h0, hg, -⟩ := check_good h1
    obtain ⟨gn, rfl⟩ : ∃ n : Nat, g = n := ⟨g.toNat, by omega⟩
    rw [Int.toNat_natCast] at hg
    have hck := check_of_good hg
    have HC' : Hid (Calls Try.prog 44 #[.int .i64 (gn : Int), .slice A t.length c] w fun e w' => e = .returned (.tuple #[.int .i64 0, .int .i64 (-1)]) ∧ Below w.heap.size w w') := Lib.hid (HC.out.mono fun e w' ⟨h2, q, h3⟩ => by rw [hck] at h2; exact ⟨h2, h3 ▸ below_drewN (Below.refl _ _) q⟩)
    have HCO : Hid (∀ w', Below w.heap.size w w' → Calls Try.prog 46 #[.slice A t.length c] w' fun e w'' => e = .returned (.bool (complete t)) ∧ ∃ q', w'' = w'.drewN q') := Lib.hid fun w' hb => complete46_any w' _ t (kept_tab.below HT.out hb)
    cases hcm : complete t with
    | false =>
      have HE : Hid (imgE (gn : Int) t = ([], 13)) := Lib.hid (by unfold imgE; rw [if_neg (by omega), if_pos hcm])
      rw [hcm] at HCO
      clear HC h1 h0 hck hg HT hcm hc ht
      unfold ImgPost
      generalize imgE (gn : Int) t = X at *
      go_enter Try.func54, Try.ntmps54
      go_wp2_with (first
        | (go_at_call 44; (refine HC'.out.mono ?_); rintro e w' ⟨rfl, hb⟩; have HB := Lib.hid hb; clear hb)
        | (go_at_call 46; (refine (HCO.out _ HB.out).mono ?_); rintro e w' ⟨rfl, q, rfl⟩))
      go_ret2
      exact ⟨⟨_, ret_of2 rfl (by rw [HE.out]), by rw [HE.out]; exact tab_nil⟩, below_drewN HB.out q⟩
    | true =>
      have HE : Hid (imgE (gn : Int) t = (imgTo t gn, 0)) := Lib.hid (by unfold imgE; rw [if_neg (by omega), if_neg (by rw [hcm]; simp)]; rfl)
      rw [hcm] at HCO
      obtain ⟨bt, ot, rfl, hcell⟩ := hc (by have := hg.n1; omega)
      have HTC := Lib.hid hcell
      have HG := Lib.hid hg
      have hg0 : (0 : Int) ≤ (gn : Int) := Int.natCast_nonneg _
      have hg16 := hg.g16
      have hg16' : (gn : Int) ≤ 16 := by omega
      have hn2 := hg.n2
      clear HC h1 h0 hck hg HT hcm hc ht hcell
      unfold ImgPost
      generalize imgE (gn : Int) t = X at *
      go_enter Try.func54, Try.ntmps54
      go_wp2_with (first
        | (go_at_call 44; (refine HC'.out.mono ?_); rintro e w' ⟨rfl, hb⟩; have HB := Lib.hid hb; clear hb)
        | (go_at_call 46; (refine (HCO.out _ HB.out).mono ?_); rintro e w' ⟨rfl, q, rfl⟩))
      have hot := OutSt.nil 24 (below_drewN HB.out q)
      have HOT := Lib.hid hot
      clear hot
      go_loopw [8, 9] (fun su i wr => ∃ k : Nat, i = .int .i64 k ∧ k ≤ gn ∧ ∃ F A c, su = .slice A k c ∧ Hid (OutSt 24 F w wr su (imgTo t k))) (fun _ i _ => gn - (intOf i).toNat)
      case atStart => exact ⟨0, rfl, by omega, _, none, 0, rfl, HOT⟩
      case round =>
        clear HOT
        obtain ⟨k, rfl, hk, F, A2, c2, rfl, HST⟩ := hrel
        have hk0 : (0 : Int) ≤ (k : Int) := Int.natCast_nonneg _
        by_cases hlt : k < gn
        · have hlt' : (k : Int) < (gn : Int) := by omega
          have HRN := Lib.hid HST.out.row_nil
          go_wp2_with fail
          go_loopw [10, 11] (fun sr i wr2 => ∃ j : Nat, i = .int .i64 j ∧ j ≤ t.length ∧
            (∃ A c, sr = .slice A j c ∧ Hid (OutSt2 24 F w wr2 (.slice A2 k c2) sr (imgTo t k) (colTo t k j)))) (fun _ i _ => t.length - (intOf i).toNat)
          case atStart => exact ⟨0, rfl, by omega, none, 0, rfl, HRN⟩
          case round =>
            clear HRN HST
            obtain ⟨j, rfl, hj, A6, c6, rfl, HS⟩ := hrel
            have hj0 : (0 : Int) ≤ (j : Int) := Int.natCast_nonneg _
            by_cases hjl : j < t.length
            · have hjl3 : (j : Int) < (t.length : Int) := by omega
              have hrl := HG.out.len j hjl
              obtain ⟨u, hu, hI⟩ := HTC.out j hjl
              have hu3 := (HS.out.st.below.cell (p := ⟨bt, ot + j, none⟩) (World.block_lt_of_cell? w _ hu)).trans hu
              have hI2 : IntsAt w u (t.row j) := hI
              obtain ⟨Au, cu, rfl, hu1, hu2, huc⟩ := hI2.open_
              obtain ⟨bu, ou, rfl, huc'⟩ := huc (by omega)
              have hcs0 := huc' (2 * k) (by omega)
              have hcs := (HS.out.st.below.cell (p := ⟨bu, ou + 2 * k, none⟩) (World.block_lt_of_cell? w _ hcs0)).trans hcs0
              have hat : (t.row j).getD (2 * k) 0 = t.at j (2 * k) := rfl
              rw [hat] at hcs
              have hkl : (2 : Int) * (k : Int) < ((t.row j).length : Int) := by omega
              have hkc : ((2 * k : Nat) : Int) = 2 * (k : Int) := by omega
              obtain ⟨A8, c8, w8, hr8, hS8⟩ := HS.out.add (by decide) 24 Try.underlying24 (t.at j (2 * k)) (by rw [length_colTo]; omega)
              rw [length_colTo] at hr8 hS8
              rw [← colTo_succ] at hS8
              have HR8 := Lib.hid hr8
              have HS8 := Lib.hid hS8
              clear hr8 hS8 hu hI hI2 huc huc' hcs0 hat hrl
              generalize t.at j (2 * k) = y at *
              generalize (t.row j).length = n at *
              go_wp2_with ((with_reducible refine wpList_sel 45 ?_); refine wpList_val rfl (r_app (.tmp 35) (.tmp 44) 24 rfl rfl rfl HR8.out) ?_)
              go_roundw
              case rel => exact ⟨j + 1, by go_num, by omega, _, _, rfl, HS8⟩
              case measure => simp [intOf]; omega
            · obtain rfl : j = t.length := by omega
              obtain ⟨A8, c8, w8, hr8, hS8⟩ := HS.out.done (by decide) Try.underlying22 info24p (fits_colTo HG.out hlt (Nat.le_refl _)) (by rw [length_imgTo]; omega)
              rw [length_imgTo] at hr8 hS8
              rw [← imgTo_succ] at hS8
              have HR8 := Lib.hid hr8
              have HS8 := Lib.hid hS8
              clear hr8 hS8
              go_wp2_with ((with_reducible refine wpList_sel 49 ?_); refine wpList_val rfl (r_app (.tmp 46) (.tmp 48) 22 rfl rfl rfl HR8.out) ?_)
              go_roundw
              case rel => exact ⟨k + 1, by go_num, by omega, _, _, _, rfl, HS8⟩
              case measure => simp [intOf]; omega
        · obtain rfl : k = gn := by omega
          have HT2 := Lib.hid HST.out.out.tab
          have HB2 := Lib.hid HST.out.below
          go_wp2_with fail
          go_ret2
          exact ⟨⟨_, ret_of2 rfl (by rw [HE.out]), by rw [HE.out]; exact HT2.out⟩, HB2.out⟩
  · have HE : Hid (imgE g t = ([], (check g t).1)) := Lib.hid (by unfold imgE; rw [if_pos h1])
    have hx : ((check g t).1 != 0) = true := by simpa using h1
    unfold CheckPostQ at HC
    unfold ImgPost
    clear HT h1 ht hc
    generalize imgE g t = X at *
    generalize (check g t).1 = e1 at *
    generalize (check g t).2 = e2 at *
    go_enter Try.func54, Try.ntmps54
    go_wp2_with (go_at_call 44; (refine HC.out.mono ?_); rintro e w' ⟨rfl, q, rfl⟩; have HB := Lib.hid (below_drewN (Below.refl w.heap.size w) q))
    go_ret2
    exact ⟨⟨_, ret_of2 rfl (by rw [HE.out]), by rw [HE.out]; exact tab_nil⟩, HB.out⟩
end Go.Proofs
