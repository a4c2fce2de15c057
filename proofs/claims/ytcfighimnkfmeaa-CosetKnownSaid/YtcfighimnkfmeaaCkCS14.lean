/- The program's Images; The walk of CosetTables; The walk of CosetRuns; The walk of CosetKnown. -/
import Derived.Test.YtcfighimnkfmeaaCkCS13
import Derived.Test.YtcfighimnkfmeaaCkCS10
import Derived.Test.YtcfighimnkfmeaaCkCS6
import Derived.Test.YtcfighimnkfmeaaCkCS7
namespace Go.Proofs
open Go.RowKit Go.Shelf Go.Proofs.Ct Go.Maps
/-- a list of g lists of the call's own, each in its own block -/
structure ImgS (w0 wr : World) (B g : Nat) (f : Nat → List Int) (vs : Nat → Value) : Prop where
  below : Below w0.heap.size w0 wr
  ge : w0.heap.size ≤ B
  blk : ∃ C, wr.heap[B]? = some (.cells C 24 (0, 0)) ∧ ∀ c, c < g → C[c]? = some (vs c)
  row : ∀ c, c < g → OwnI w0.heap.size wr (vs c) (f c)
  ap : ∀ c d, c < g → d < g → c ≠ d → ∀ r, (vs c).ownBlock = some r → (vs d).ownBlock ≠ some r
section
variable {w0 wr : World} {B g : Nat} {f : Nat → List Int} {vs : Nat → Value}
theorem ImgS.lt (h : ImgS w0 wr B g f vs) : B < wr.heap.size := by obtain ⟨C, hC, -⟩ := h.blk; exact (Array.getElem?_eq_some_iff.1 hC).1
theorem ImgS.own (h : ImgS w0 wr B g f vs) {c : Nat} (hc : c < g) : (vs c).ownBlock ≠ some B := fun e => by
  obtain ⟨-, C, hC⟩ := owns_block (h.row c hc) B e
  obtain ⟨C', hC', -⟩ := h.blk
  rw [hC'] at hC
  cases hC
theorem ImgS.below' {w' : World} (h : ImgS w0 wr B g f vs) (hb : Below wr.heap.size wr w') : ImgS w0 w' B g f vs := by
  obtain ⟨C, hC, h1⟩ := h.blk
  exact ⟨h.below.trans (hb.mono h.below.size), h.ge, ⟨C, (hb.block _ h.lt).trans hC, h1⟩, fun c hc => owns_below (h.row c hc) hb, h.ap⟩
theorem ImgS.cell (h : ImgS w0 wr B g f vs) {c : Nat} (hc : c < g) : wr.cell? ⟨B, c, none⟩ = some (vs c) := by
  obtain ⟨C, hC, h1⟩ := h.blk
  rw [cell_of_row _ _ _ _ _ _ hC]
  exact h1 c hc
theorem ImgS.frozen (h : ImgS w0 wr B g f vs) (c : Nat) : wr.frozen? ⟨B, c, none⟩ = false := by
  obtain ⟨C, hC, -⟩ := h.blk
  simp [World.frozen?, hC]
theorem ImgS.push (h : ImgS w0 wr B g f vs) {c : Nat} (hc : c < g) (z : Int) (hl : (f c).length ≤ 1000000) :
    ∃ A' c' w', (Builtin.append_ #[24, 24] 24 #[vs c, .slice (some ⟨wr.heap.size, 0, none⟩) 1 1]).run Try.prog (wr.alloc (.cells #[.int .i64 z] 3)) = .ok (.slice A' ((f c).length + 1) c') w' ∧
      w'.cell? ⟨B, c, none⟩ = some (vs c) ∧ w'.frozen? ⟨B, c, none⟩ = false ∧
      ImgS w0 (w'.setCell ⟨B, c, none⟩ (.slice A' ((f c).length + 1) c')) B g (fun d => if d = c then f c ++ [z] else f d) (fun d => if d = c then .slice A' ((f c).length + 1) c' else vs d) := by
  obtain ⟨A', c', w', hr, ho, hg, hw⟩ := push_int 24 24 Try.underlying24 wr w0.heap.size (vs c) (f c) (h.row c hc) z (by omega) h.below.size
  obtain ⟨C, hC, h1⟩ := h.blk
  have hCB : w'.heap[B]? = some (.cells C 24 (0, 0)) := (hg.block B h.lt (fun e => h.own hc e.symm)).trans hC
  have hrow : ∀ d, d < g → d ≠ c → OwnI w0.heap.size w' (vs d) (f d) := fun d hd hne => owns_keep (h.row d hd) fun r hr' => hg.block r (owns_lt (h.row d hd) hr') fun e => h.ap d c hd hc hne r hr' e.symm
  have hset : ∀ {u : Value} {x : List Int}, OwnI w0.heap.size w' u x → OwnI w0.heap.size (w'.setCell ⟨B, c, none⟩ (.slice A' ((f c).length + 1) c')) u x := fun {u x} hu => owns_keep hu fun r hr' => Below.heap_setCell w' ⟨B, c, none⟩ _ r fun e => by
    have e' : r = B := e
    obtain ⟨-, C', hC'⟩ := owns_block hu r hr'
    rw [e', hCB] at hC'
    cases hC'
  refine ⟨A', c', w', hr, by rw [cell_of_row _ _ _ _ _ _ hCB]; exact h1 c hc, by simp [World.frozen?, hCB], ?_, h.ge, ⟨C.setIfInBounds c (.slice A' ((f c).length + 1) c'), by simp [World.setCell, Array.getElem?_modify, hCB], fun d hd => ?_⟩, fun d hd => ?_, fun d1 d2 hd1 hd2 hne r hr1 => ?_⟩
  · exact (h.below.grown hg h.below.size (fun r hr' => (owns_block (h.row c hc) r hr').1)).setCell h.ge _
  · by_cases e : d = c
    · subst e
      have hsz : d < C.size := (Array.getElem?_eq_some_iff.1 (h1 d hd)).1
      simp [hsz]
    · skip
      rw [if_neg e, Array.getElem?_setIfInBounds_ne (fun e' => e e'.symm)]
      exact h1 d hd
  · by_cases e : d = c
    · rw [if_pos e, if_pos e]
      exact hset ho
    · rw [if_neg e, if_neg e]
      exact hset (hrow d hd e)
  · skip
    by_cases e1 : d1 = c
    · rw [if_pos e1] at hr1
      rw [if_neg (by omega)]
      rcases hw with hw | ⟨r', hw, hge⟩
      · rw [hw] at hr1
        exact h.ap c d2 hc hd2 (by omega) r hr1
      · rw [hw] at hr1
        cases hr1
        intro e
        have := owns_lt (h.row d2 hd2) e
        omega
    · rw [if_neg e1] at hr1
      by_cases e2 : d2 = c
      · rw [if_pos e2]
        rcases hw with hw | ⟨r', hw, hge⟩
        · rw [hw]
          exact h.ap d1 c hd1 hc (by omega) r hr1
        · rw [hw]
          intro e
          cases e
          have := owns_lt (h.row d1 hd1) hr1
          omega
      · rw [if_neg e2]
        exact h.ap d1 d2 hd1 hd2 hne r hr1
theorem ImgS.tab (h : ImgS w0 wr B g f vs) (hf : ∀ c, c < g → Fits (f c)) (hg : g ≤ 1000000) : Tab wr (.slice (some ⟨B, 0, none⟩) g g) ((List.range g).map f) := by
  refine ⟨(List.range g).map vs, ⟨_, g, g, rfl, by simp, Nat.le_refl _, by simp [maxLen]; omega, fun _ => ⟨B, 0, rfl, fun j v hj => ?_⟩⟩, by simp, fun i hi => ?_⟩
  · have hj' : j < g := by have := (List.getElem?_eq_some_iff.1 hj).1; simpa using this
    rw [Nat.zero_add, h.cell hj']
    simpa [hj'] using hj
  · have hi' : i < g := by simpa using hi
    refine ⟨vs i, by simp [hi'], ?_⟩
    have := OwnI.ints (h.row i hi') (hf i hi')
    simpa [List.getD_eq_getElem?_getD, hi'] using this
end
theorem made24 (n : Nat) : madeCells (Value.slice none 0 0).cells n = Array.replicate n (.slice none 0 0) := by
  apply Array.ext_getElem?
  intro k
  simp only [madeCells, Value.cells, Array.getElem?_map, Array.getElem?_range, Array.getElem?_replicate]
  by_cases h : k < n
  · simp [h, Nat.mod_one]
  · simp [h]
theorem make22r (w : World) (n : Nat) (hn : n ≤ 100000) : (Instr.makeSlice 22 (.int .i64 (n : Int)) (.int .i64 (n : Int))).run Try.prog w =
    .ok (.slice (some ⟨w.heap.size, 0, none⟩) n n) (w.alloc (.cells (Array.replicate n (.slice none 0 0)) 24)) := by
  obtain ⟨i, hi, hz, hs, hb⟩ := info24p
  have := run_makeSlice (P := Try.prog) w 22 24 i (.slice none 0 0) Try.underlying22 hi hz .i64 .i64 n n (by omega) (Int.le_refl _) (by rw [hs]; simp; omega) (by rw [hb]; omega) (by omega)
  rw [this, hs, Int.toNat_natCast, Nat.mul_one, made24]
theorem ImgS.first {w0 w : World} (h : Below w0.heap.size w0 w) (g : Nat) : ImgS w0 (w.alloc (.cells (Array.replicate g (.slice none 0 0)) 24)) w.heap.size g (fun _ => []) (fun _ => .slice none 0 0) :=
  ⟨h.alloc h.size _, h.size, ⟨_, heap_alloc_new w _, fun c hc => by simp [hc]⟩, fun _ _ => World.ownsRow_nil _ _ _ _, fun _ _ _ _ _ _ hr => by cases hr⟩
theorem mul2 (w : World) (k : Nat) (hk : k ≤ 1000) : (binOp .mul 3 (.int .i64 2) (.int .i64 (k : Int))).run Try.prog w = .ok (.int .i64 (2 * (k : Int))) w := by
  have e : wrap64 (2 * (k : Int)) = 2 * (k : Int) := IntWalk.wrap64_in _ ⟨by omega, by omega⟩
  simp [go_sem, IntWalk.i64_left, e]
theorem r_mul2 {o : Oper} {a : Act} {w : World} (x : Operand) (k : Nat) (hk : k ≤ 1000) (ho : o.op = .binOp .mul 3 (.const (.int .i64 2)) x 3) (hx : a.eval x = .int .i64 (k : Int)) : (execOp a.eval o).run Try.prog w = .ok (.value (.int .i64 (2 * (k : Int)))) w := by
  have h := mul2 w k hk
  have hc : a.eval (.const (.int .i64 2)) = .int .i64 2 := rfl
  unfold execOp
  have hg : (eqGuard BinOp.mul 3 (.const (.int .i64 2)) x (.int .i64 2) (.int .i64 (k : Int))).run Try.prog w = .ok () w := rfl
  simp only [ho, hx, hc, Sem.run_bind, hg, h, Result.andThen_ok]
  rfl
theorem idx_off {T E : TypeId} (hu : Try.prog.underlying T = some (.slice E)) (hs : ∀ w, (sizeOf E).run Try.prog w = .ok 1 w) (g o m c i : Nat) (z : Int) (hz : z = (i : Int)) (hi : i < m) (w : World) :
    (Instr.indexAt T (.slice (some ⟨g, o, none⟩) m c) (.int .i64 z)).run Try.prog w = .ok (.pointer (some ⟨g, o + i, none⟩)) w := by
  subst hz
  have h2 := Addr.add_mid g o i
  simp [Instr.indexAt, asIntOf, run_underlying hu, hs, h2, hi]
set_option maxRecDepth 100000 in
set_option maxHeartbeats 2000000 in
theorem img53_any (w : World) (v : Value) (g : Int) (t : Tb) (ht : Tab w v t) : Calls Try.prog 53 #[.int .i64 g, v] w (ImgPost g t w) := by
  have HC := Lib.hid (check43_any w v g t ht)
  have HT := Lib.hid ht
  obtain ⟨A, c, rfl, hc1, hc2, hc⟩ := ht.open_
  by_cases h1 : (check g t).1 = 0
  · obtain ⟨h0, hg, -⟩ := check_good h1
    obtain ⟨gn, rfl⟩ : ∃ n : Nat, g = n := ⟨g.toNat, by omega⟩
    rw [Int.toNat_natCast] at hg
    have hck := check_of_good hg
    have HC' : Hid (Calls Try.prog 43 #[.int .i64 (gn : Int), .slice A t.length c] w fun e w' => e = .returned (.tuple #[.int .i64 0, .int .i64 (-1)]) ∧ Below w.heap.size w w') := Lib.hid (HC.out.mono fun e w' ⟨h2, h3⟩ => by rw [hck] at h2; exact ⟨h2, h3⟩)
    have HCO : Hid (∀ w', Below w.heap.size w w' → Calls Try.prog 45 #[.slice A t.length c] w' fun e w'' => e = .returned (.bool (complete t)) ∧ Below w'.heap.size w' w'') := Lib.hid fun w' hb => complete45_any w' _ t (kept_tab.below HT.out hb)
    cases hcm : complete t with
    | false =>
      have HE : Hid (imgE (gn : Int) t = ([], 13)) := Lib.hid (by unfold imgE; rw [if_neg (by omega), if_pos hcm])
      rw [hcm] at HCO
      clear HC h1 h0 hck hg HT hcm hc ht
      unfold ImgPost
      generalize imgE (gn : Int) t = X at *
      go_enter Try.func53, Try.ntmps53
      go_wp2_with (first
        | (go_at_call 43; (refine HC'.out.mono ?_); rintro e w' ⟨rfl, hb⟩; have HB := Lib.hid hb; clear hb)
        | (go_at_call 45; (refine (HCO.out _ HB.out).mono ?_); rintro e w' ⟨rfl, hb⟩; have HB2 := Lib.hid (HB.out.trans (hb.mono HB.out.size)); clear hb))
      go_ret2
      exact ⟨⟨_, ret_of2 rfl (by rw [HE.out]), by rw [HE.out]; exact tab_nil⟩, HB2.out⟩
    | true =>
      have HE : Hid (imgE (gn : Int) t = (imgTo t gn, 0)) := Lib.hid (by unfold imgE; rw [if_neg (by omega), if_neg (by rw [hcm]; simp)]; rfl)
      rw [hcm] at HCO
      obtain ⟨bt, ot, rfl, hcell⟩ := hc (by have := hg.n1; omega)
      have HTC := Lib.hid hcell
      have HG := Lib.hid hg
      have hg0 : (0 : Int) ≤ (gn : Int) := Int.natCast_nonneg _
      have hg16 := hg.g16
      have hg16' : (gn : Int) ≤ 16 := by omega
      have hn2 := hg.n2
      clear HC h1 h0 hck hg HT hcm hc ht hcell
      unfold ImgPost
      generalize imgE (gn : Int) t = X at *
      go_enter Try.func53, Try.ntmps53
      go_wp2_with (first
        | (go_at_call 43; (refine HC'.out.mono ?_); rintro e w1 ⟨rfl, hb⟩; have HB := Lib.hid hb; clear hb)
        | (go_at_call 45; (refine (HCO.out _ HB.out).mono ?_); rintro e w2 ⟨rfl, hb⟩; have HB2 := Lib.hid (HB.out.trans (hb.mono HB.out.size)); have HI := Lib.hid (ImgS.first HB2.out gn); have HM := Lib.hid (make22r w2 gn (by omega)); clear hb)
        | ((with_reducible refine wpList_sel 25 ?_); refine wpList_val rfl (r_make 22 (.tmp 24) (.tmp 24) rfl rfl rfl HM.out) ?_))
      rename World => w2
      generalize hB : w2.heap.size = B at *
      generalize w2.alloc (.cells (Array.replicate gn (.slice none 0 0)) 24) = w3 at *
      clear hB HM HB2
      go_loopw [28] (fun i wr => ∃ r : Nat, i = .int .i64 (r : Int) ∧ r ≤ t.length ∧ ∃ vs, Hid (ImgS w wr B gn (fun c => colTo t c r) vs)) (fun i _ => t.length - (intOf i).toNat)
      case atStart => exact ⟨0, rfl, by omega, _, HI⟩
      case round =>
        clear HI
        obtain ⟨r, rfl, hr, vs, HI⟩ := hrel
        have hr0 : (0 : Int) ≤ (r : Int) := Int.natCast_nonneg _
        by_cases hlt : r < t.length
        · have hlt' : (r : Int) < (t.length : Int) := by omega
          have hrl := HG.out.len r hlt
          obtain ⟨u, hu0, hI⟩ := HTC.out r hlt
          have hu := (HI.out.below.cell (p := ⟨bt, ot + r, none⟩) (World.block_lt_of_cell? w _ hu0)).trans hu0
          have hI2 : IntsAt w u (t.row r) := hI
          obtain ⟨Au, cu, rfl, hu1, hu2, huc⟩ := hI2.open_
          obtain ⟨bu, ou, rfl, huc'⟩ := huc (by have := HG.out.g1; omega)
          have HUC := Lib.hid huc'
          have hat : ∀ c, (t.row r).getD c 0 = t.at r c := fun _ => rfl
          have HI0 : Hid (ImgS w wr B gn (fun c => colTo t c (if c < 0 then r + 1 else r)) vs) := Lib.hid (by simpa using HI.out)
          have HN := Lib.hid hrl
          rw [hrl] at hu
          clear hu0 hI hI2 huc huc' hrl hu1 hu2
          go_wp2_with fail
          go_loopw [34] (fun i wr2 => ∃ c : Nat, i = .int .i64 (c : Int) ∧ c ≤ gn ∧ ∃ vs, Hid (ImgS w wr2 B gn (fun d => colTo t d (if d < c then r + 1 else r)) vs)) (fun i _ => gn - (intOf i).toNat)
          case atStart => exact ⟨0, rfl, by omega, _, HI0⟩
          case round =>
            clear HI HI0 hu
            rename World => wr
            obtain ⟨c, rfl, hc, vs, HI⟩ := hrel
            have hc0 : (0 : Int) ≤ (c : Int) := Int.natCast_nonneg _
            by_cases hcg : c < gn
            · have hcg' : (c : Int) < (gn : Int) := by omega
              have hI1 := HI.out.below' (w' := wr.drew) (Below.refl wr.heap.size wr).drew
              obtain ⟨A8, c8, w8, hrun, hc8, hf8, hI8⟩ := hI1.push hcg (t.at r (2 * c)) (by simp [length_colTo]; omega)
              have hv0 := hI1.cell hcg
              have hbl : Below wr.drew.heap.size wr.drew (wr.drew.alloc (.cells #[.int .i64 (t.at r (2 * c))] 3)) := (Below.refl _ _).alloc (Nat.le_refl _) _
              have hv1 := (hI1.below' hbl).cell hcg
              have hcs0 := HUC.out (2 * c) (by rw [HN.out]; omega)
              have hcs := (hI1.below.cell (p := ⟨bu, ou + 2 * c, none⟩) (World.block_lt_of_cell? w _ hcs0)).trans hcs0
              rw [hat] at hcs
              have hlen : (colTo t c (if c < c then r + 1 else r)).length = r := by rw [if_neg (by omega), length_colTo]
              rw [hlen] at hrun hI8
              have hI9 : ImgS w (w8.setCell ⟨B, c, none⟩ (.slice A8 (r + 1) c8)) B gn (fun d => colTo t d (if d < c + 1 then r + 1 else r)) (fun d => if d = c then .slice A8 (r + 1) c8 else vs d) := by
                have e : (fun d => if d = c then colTo t c (if c < c then r + 1 else r) ++ [t.at r (2 * c)] else colTo t d (if d < c then r + 1 else r)) = (fun d => colTo t d (if d < c + 1 then r + 1 else r)) := by
                  funext d
                  by_cases h : d = c
                  · subst h
                    rw [if_pos rfl, if_neg (by omega), if_pos (by omega), colTo_succ]
                  · rw [if_neg h]
                    by_cases h2 : d < c
                    · rw [if_pos h2, if_pos (by omega)]
                    · rw [if_neg h2, if_neg (by omega)]
                rw [← e]
                exact hI8
              have HRUN := Lib.hid hrun
              have HC8 := Lib.hid hc8
              have HF8 := Lib.hid hf8
              have HV0 := Lib.hid hv0
              have HV1 := Lib.hid hv1
              have HY := Lib.hid hcs
              have HI9 : Hid (∃ vs, ImgS w (w8.setCell ⟨B, c, none⟩ (.slice A8 (r + 1) c8)) B gn (fun d => colTo t d (if d < c + 1 then r + 1 else r)) vs) := Lib.hid ⟨_, hI9⟩
              have HIX : Hid (∀ W, (Instr.indexAt 24 (.slice (some ⟨bu, ou, none⟩) (2 * gn) cu) (.int .i64 (2 * (c : Int)))).run Try.prog W = .ok (.pointer (some ⟨bu, ou + 2 * c, none⟩)) W) := Lib.hid fun W => idx_off Try.underlying24 size3 bu ou (2 * gn) cu (2 * c) _ (by omega) (by omega) W
              clear hI1 hrun hc8 hf8 hI8 hv0 hbl hv1 hcs0 hcs hlen hI9
              generalize t.at r (2 * c) = y at *
              generalize vs c = vc at *
              go_wp2_with fail
              refine (wpIn_wide (n := 3)).1 ?_
              refine wpIn_region_all (by kernel_rfl) 15 rfl (fun i => if i < 14 then some (37 + i) else none) (lex_of (by kernel_rfl)) (fun ls W => W = bif ls 14 then w8.setCell ⟨B, c, none⟩ (.slice A8 (r + 1) c8) else bif ls 12 then w8 else bif ls 11 then wr.drew.alloc (.cells #[.int .i64 y] 3) else wr.drew)
                (fun i v _ => v = ([.slice (some ⟨B, 0, none⟩) gn gn, .int .i64 (c : Int), .slice (some ⟨B, 0, none⟩) gn gn, .int .i64 (c : Int), .pointer (some ⟨B, c, none⟩), vc, .slice (some ⟨bu, ou, none⟩) (2 * gn) cu, .int .i64 (c : Int), .int .i64 (2 * (c : Int)), .pointer (some ⟨bu, ou + 2 * c, none⟩), .int .i64 y, .slice (some ⟨wr.heap.size, 0, none⟩) 1 1, .slice A8 (r + 1) c8, .pointer (some ⟨B, c, none⟩), undef] : List Value).getD i undef) (fun _ _ _ => True) (dm_inj (by kernel_rfl)) (fun _ _ _ _ _ _ _ _ _ h => h) (dm_lt (n := 54) (by kernel_rfl)) rfl ?_ ?_
              · intro ls q o a w2 hq ho hS2 hls hcl hP hpre
                have hcases : q = 0 ∨ q = 1 ∨ q = 2 ∨ q = 3 ∨ q = 4 ∨ q = 5 ∨ q = 6 ∨ q = 7 ∨ q = 8 ∨ q = 9 ∨ q = 10 ∨ q = 11 ∨ q = 12 ∨ q = 13 ∨ q = 14 := by
                  have : q < 15 := hq
                  omega
                rcases hcases with rfl | rfl | rfl | rfl | rfl | rfl | rfl | rfl | rfl | rfl | rfl | rfl | rfl | rfl | rfl
                · obtain rfl := Option.some.inj ho
                  exact wpOpIn_of rfl rfl (wpW_val (r_move (.tmp 8) rfl (hP.out 8 (dm_out (by kernel_rfl)))) ⟨_, rfl, hS2, trivial, (fun h => by simp at h), rfl⟩)
                · obtain rfl := Option.some.inj ho
                  exact wpOpIn_of rfl rfl (wpW_val (r_move (.tmp 11) rfl (hP.out 11 (dm_out (by kernel_rfl)))) ⟨_, rfl, hS2, trivial, (fun h => by simp at h), rfl⟩)
                · obtain rfl := Option.some.inj ho
                  exact wpOpIn_of rfl rfl (wpW_val (r_move (.tmp 8) rfl (hP.out 8 (dm_out (by kernel_rfl)))) ⟨_, rfl, hS2, trivial, (fun h => by simp at h), rfl⟩)
                · obtain rfl := Option.some.inj ho
                  exact wpOpIn_of rfl rfl (wpW_val (r_move (.tmp 11) rfl (hP.out 11 (dm_out (by kernel_rfl)))) ⟨_, rfl, hS2, trivial, (fun h => by simp at h), rfl⟩)
                · obtain rfl := Option.some.inj ho
                  exact wpOpIn_of rfl rfl (wpW_val (r_idx (.tmp 39) (.tmp 40) _ _ rfl (hpre ⟨2, .data⟩ (by simp) rfl).2 (hpre ⟨3, .data⟩ (by simp) rfl).2 (idx_sl Try.underlying22 size24 B gn gn c hcg _)) ⟨_, rfl, hS2, trivial, (fun h => by simp at h), rfl⟩)
                · obtain rfl := Option.some.inj ho
                  have h12 := not_yet hcl 12 rfl ⟨5, .data⟩ (by simp) rfl hls
                  have h14 := not_yet hcl 14 rfl ⟨12, .data⟩ (by simp) rfl h12
                  have hc5 : w2.cell? ⟨B, c, none⟩ = some vc := by rw [hS2, h12, h14]; cases ls 11 <;> first | exact HV0.out | exact HV1.out
                  exact wpOpIn_of rfl rfl (wpW_val (r_load1 24 agg24 (.tmp 41) ⟨B, c, none⟩ rfl (hpre ⟨4, .data⟩ (by simp) rfl).2 hc5) ⟨_, rfl, hS2, trivial, (fun h => by simp at h), rfl⟩)
                · obtain rfl := Option.some.inj ho
                  exact wpOpIn_of rfl rfl (wpW_val (r_move (.tmp 10) rfl (hP.out 10 (dm_out (by kernel_rfl)))) ⟨_, rfl, hS2, trivial, (fun h => by simp at h), rfl⟩)
                · obtain rfl := Option.some.inj ho
                  exact wpOpIn_of rfl rfl (wpW_val (r_move (.tmp 11) rfl (hP.out 11 (dm_out (by kernel_rfl)))) ⟨_, rfl, hS2, trivial, (fun h => by simp at h), rfl⟩)
                · obtain rfl := Option.some.inj ho
                  exact wpOpIn_of rfl rfl (wpW_val (r_mul2 (.tmp 44) c (by omega) rfl (hpre ⟨7, .data⟩ (by simp) rfl).2) ⟨_, rfl, hS2, trivial, (fun h => by simp at h), rfl⟩)
                · obtain rfl := Option.some.inj ho
                  exact wpOpIn_of rfl rfl (wpW_val (r_idx (.tmp 43) (.tmp 45) _ _ rfl (hpre ⟨6, .data⟩ (by simp) rfl).2 (hpre ⟨8, .data⟩ (by simp) rfl).2 (HIX.out _)) ⟨_, rfl, hS2, trivial, (fun h => by simp at h), rfl⟩)
                · obtain rfl := Option.some.inj ho
                  have h11 := not_yet hcl 11 rfl ⟨10, .data⟩ (by simp) rfl hls
                  have h12 := not_yet hcl 12 rfl ⟨11, .data⟩ (by simp) rfl h11
                  have h14 := not_yet hcl 14 rfl ⟨12, .data⟩ (by simp) rfl h12
                  have hc5 : w2.cell? ⟨bu, ou + 2 * c, none⟩ = some (.int .i64 y) := by rw [hS2, h12, h14, h11]; exact HY.out
                  exact wpOpIn_of rfl rfl (wpW_val (r_load1 3 agg3 (.tmp 46) ⟨bu, ou + 2 * c, none⟩ rfl (hpre ⟨9, .data⟩ (by simp) rfl).2 hc5) ⟨_, rfl, hS2, trivial, (fun h => by simp at h), rfl⟩)
                · obtain rfl := Option.some.inj ho
                  have h12 := not_yet hcl 12 rfl ⟨11, .data⟩ (by simp) rfl hls
                  have h14 := not_yet hcl 14 rfl ⟨12, .data⟩ (by simp) rfl h12
                  rw [h12, h14, hls] at hS2
                  have hS3 : w2 = wr.drew := hS2
                  subst hS3
                  exact wpOpIn_of rfl rfl (wpW_val (r_bs24 (.tmp 47) y rfl (hpre ⟨10, .data⟩ (by simp) rfl).2) ⟨_, rfl, (by rw [show (fun j => if 11 = j then true else ls j) 14 = false from h14, show (fun j => if 11 = j then true else ls j) 12 = false from h12]; rfl), trivial, (fun h => by simp at h), rfl⟩)
                · obtain rfl := Option.some.inj ho
                  have h14 := not_yet hcl 14 rfl ⟨12, .data⟩ (by simp) rfl hls
                  have h11 : ls 11 = true := (hpre ⟨11, .data⟩ (by simp) rfl).1
                  rw [h14, hls, h11] at hS2
                  have hS3 : w2 = wr.drew.alloc (.cells #[.int .i64 y] 3) := hS2
                  subst hS3
                  exact wpOpIn_of rfl rfl (wpW_val (r_app (.tmp 42) (.tmp 48) 24 rfl (hpre ⟨5, .data⟩ (by simp) rfl).2 (hpre ⟨11, .data⟩ (by simp) rfl).2 HRUN.out) ⟨_, rfl, (by rw [show (fun j => if 12 = j then true else ls j) 14 = false from h14]; rfl), trivial, (fun h => by simp at h), rfl⟩)
                · obtain rfl := Option.some.inj ho
                  exact wpOpIn_of rfl rfl (wpW_val (r_idx (.tmp 37) (.tmp 38) _ _ rfl (hpre ⟨0, .data⟩ (by simp) rfl).2 (hpre ⟨1, .data⟩ (by simp) rfl).2 (idx_sl Try.underlying22 size24 B gn gn c hcg _)) ⟨_, rfl, hS2, trivial, (fun h => by simp at h), rfl⟩)
                · obtain rfl := Option.some.inj ho
                  have h12 : ls 12 = true := (hpre ⟨12, .data⟩ (by simp) rfl).1
                  rw [hls, h12] at hS2
                  have hS3 : w2 = w8 := hS2
                  subst hS3
                  exact wpOpIn_of rfl rfl (wpW_skip (r_store1 24 (.tmp 50) (.tmp 49) ⟨B, c, none⟩ _ _ rfl (hpre ⟨13, .data⟩ (by simp) rfl).2 (hpre ⟨12, .data⟩ (by simp) rfl).2 rfl HC8.out HF8.out (st24 _ _ A8 _ c8 HC8.out HF8.out)) ⟨undef, rfl, rfl, trivial, fun _ => rfl, rfl⟩)
              · intro ls a w2 hall hS2 hP hsl
                have h14 : ls 14 = true := hall 14 (by decide)
                rw [h14] at hS2
                obtain ⟨vs, hvs, hfr⟩ := hP.frame 54 rfl
                clear hsl hP hall h14 hvs HV0 HV1 HC8 HF8 HRUN HY
                subst hfr
                subst hS2
                simp only [List.range, List.range.loop, List.map_cons, List.map_nil, List.any_cons, List.any_nil, Nat.reduceAdd, Nat.reduceBEq, Nat.reduceLT, Option.some_beq_some, Bool.or_false, if_true, if_false, List.getD_cons_zero, List.getD_cons_succ, cond_true]
                generalize hw2 : w8.setCell ⟨B, c, none⟩ (.slice A8 (r + 1) c8) = w9 at *
                clear hw2
                obtain ⟨vs9, hI9⟩ := HI9.out
                have HI10 := Lib.hid hI9
                clear hI9
                go_wp2_with fail
                go_roundw
                case rel => exact ⟨c + 1, by go_num, by omega, _, HI10⟩
                case measure => simp [intOf]; omega
            · obtain rfl : c = gn := by omega
              have HI10 : Hid (∃ vs, ImgS w wr B c (fun d => colTo t d (r + 1)) vs) := Lib.hid ⟨vs, ⟨HI.out.below, HI.out.ge, HI.out.blk, fun d hd => by
                have := HI.out.row d hd
                rwa [if_pos hd] at this, HI.out.ap⟩⟩
              obtain ⟨vs9, hI9⟩ := HI10.out
              have HI11 := Lib.hid hI9
              clear hI9 HI10
              go_wp2_with fail
              go_roundw
              case rel => exact ⟨r + 1, by go_num, by omega, _, HI11⟩
              case measure => simp [intOf]; omega
        · obtain rfl : r = t.length := by omega
          have HT2 : Hid (Tab wr (.slice (some ⟨B, 0, none⟩) gn gn) (imgTo t gn)) := Lib.hid (HI.out.tab (fun c hc => fits_colTo HG.out hc (Nat.le_refl _)) (by omega))
          have HB2 := Lib.hid HI.out.below
          go_wp2_with fail
          go_ret2
          exact ⟨⟨_, ret_of2 rfl (by rw [HE.out]), by rw [HE.out]; exact HT2.out⟩, HB2.out⟩
  · have HE : Hid (imgE g t = ([], (check g t).1)) := Lib.hid (by unfold imgE; rw [if_pos h1])
    have hx : ((check g t).1 != 0) = true := by simpa using h1
    unfold CheckPost at HC
    unfold ImgPost
    clear HT h1 ht hc
    generalize imgE g t = X at *
    generalize (check g t).1 = e1 at *
    generalize (check g t).2 = e2 at *
    go_enter Try.func53, Try.ntmps53
    go_wp2_with (go_at_call 43; (refine HC.out.mono ?_); rintro e w' ⟨rfl, hb⟩; have HB := Lib.hid hb; clear hb)
    go_ret2
    exact ⟨⟨_, ret_of2 rfl (by rw [HE.out]), by rw [HE.out]; exact tab_nil⟩, HB.out⟩
end Go.Proofs
namespace Go.Proofs
open Go.RowKit Go.Shelf Go.Proofs.Ct Go.Maps
theorem std48_any (w : World) (v : Value) (g : Int) (t : Tb) (b : Int) (ht : Tab w v t) : Calls Try.prog 48 #[.int .i64 g, v, .int .i64 b] w (StdPost g t b w) := by
  by_cases h : (check g t).1 ≠ 0 ∨ b < 0 ∨ (t.length : Int) ≤ b
  · exact std48_bad w v g t b ht h
  · have h1 : (check g t).1 = 0 := by
      by_cases h2 : (check g t).1 = 0
      · exact h2
      · exact absurd (.inl h2) h
    obtain ⟨h0, hg, -⟩ := check_good h1
    have e : g = ((g.toNat : Nat) : Int) := by omega
    rw [e]
    exact std48_good w v g.toNat t b ht hg (by omega) (by omega)
end Go.Proofs
namespace Go.Proofs
open Go.RowKit Go.Shelf Go.Proofs.Ct Go.Maps
theorem cells49 {w : World} {b : Nat} {x y z : Value} (h : w.heap[b]? = some (.cells #[x, y, z] 49 (0, 0))) : w.cell? ⟨b, 0, none⟩ = some x ∧ w.cell? ⟨b, 1, none⟩ = some y ∧ w.cell? ⟨b, 2, none⟩ = some z := by
  refine ⟨?_, ?_, ?_⟩ <;> (rw [cell_of_row _ _ _ _ _ _ h]; rfl)
end Go.Proofs
namespace Go.Proofs
open Go.RowKit Go.Shelf Go.Proofs.Ct Go.Maps
theorem bl3 {a b c : World} (h1 : Below a.heap.size a b) (h2 : Below b.heap.size b c) : Below a.heap.size a c := h1.trans (h2.mono h1.size)
theorem below_sz {w W : World} {o : Obj} (h : Below (w.heap.size + 1) (w.alloc o) W) : Below (w.alloc o).heap.size (w.alloc o) W := by rw [World.size_alloc]; exact h
theorem eql49 (w : World) : (binOp .eql 49 (.agg #[.int .i64 1, .int .i64 1, .int .i64 0]) (.agg #[.int .i64 1, .int .i64 1, .int .i64 0])).run Try.prog w = .ok (.bool true) w := by kernel_rfl
theorem lit1 (w : World) (x : List Int) (hx : Fits x) {n : Nat} (hn : x.length = n) (hm : n ≤ 1000) {e : TypeId} :
    Tab ((w.alloc (.cells (ints x).toArray 3)).alloc (.cells #[.slice (some ⟨w.heap.size, 0, none⟩) n n] e)) (.slice (some ⟨w.heap.size + 1, 0, none⟩) 1 1) [x] := by
  have h1 := ints_lit w x hx n hn hm
  have hb : Below (w.alloc (.cells (ints x).toArray 3)).heap.size (w.alloc (.cells (ints x).toArray 3)) ((w.alloc (.cells (ints x).toArray 3)).alloc (.cells #[.slice (some ⟨w.heap.size, 0, none⟩) n n] e)) := (Below.refl _ _).alloc (Nat.le_refl _) _
  have h2 := heap_alloc_new (w.alloc (.cells (ints x).toArray 3)) (.cells #[.slice (some ⟨w.heap.size, 0, none⟩) n n] e)
  rw [World.size_alloc] at h2
  exact tab_blk (us := [.slice (some ⟨w.heap.size, 0, none⟩) n n]) h2 rfl rfl (by simp) fun i hi => by
    have : i = 0 := by simpa using hi
    subst this
    exact IntsAt.below h1 hb
theorem lit1_below (w : World) (x : List Int) (n : Nat) {e : TypeId} : Below w.heap.size w ((w.alloc (.cells (ints x).toArray 3)).alloc (.cells #[.slice (some ⟨w.heap.size, 0, none⟩) n n] e)) :=
  ((Below.refl _ _).alloc (Nat.le_refl _) _).alloc (by simp) _
theorem lit2 (w : World) (x y : List Int) (hx : Fits x) (hy : Fits y) {n m : Nat} (hn : x.length = n) (hm : y.length = m) (hs : n ≤ 1000 ∧ m ≤ 1000) {e : TypeId} :
    Tab (((w.alloc (.cells (ints x).toArray 3)).alloc (.cells (ints y).toArray 3)).alloc (.cells #[.slice (some ⟨w.heap.size, 0, none⟩) n n, .slice (some ⟨w.heap.size + 1, 0, none⟩) m m] e)) (.slice (some ⟨w.heap.size + 1 + 1, 0, none⟩) 2 2) [x, y] := by
  have h1 := ints_lit w x hx n hn hs.1
  have h2 := ints_lit (w.alloc (.cells (ints x).toArray 3)) y hy m hm hs.2
  have hb1 : Below (w.alloc (.cells (ints x).toArray 3)).heap.size (w.alloc (.cells (ints x).toArray 3)) ((w.alloc (.cells (ints x).toArray 3)).alloc (.cells (ints y).toArray 3)) := (Below.refl _ _).alloc (Nat.le_refl _) _
  have hb2 := (Below.refl _ ((w.alloc (.cells (ints x).toArray 3)).alloc (.cells (ints y).toArray 3))).alloc (Nat.le_refl _) (.cells #[.slice (some ⟨w.heap.size, 0, none⟩) n n, .slice (some ⟨w.heap.size + 1, 0, none⟩) m m] e)
  have h3 := heap_alloc_new ((w.alloc (.cells (ints x).toArray 3)).alloc (.cells (ints y).toArray 3)) (.cells #[.slice (some ⟨w.heap.size, 0, none⟩) n n, .slice (some ⟨w.heap.size + 1, 0, none⟩) m m] e)
  simp only [World.size_alloc] at h2 h3
  exact tab_blk (us := [.slice (some ⟨w.heap.size, 0, none⟩) n n, .slice (some ⟨w.heap.size + 1, 0, none⟩) m m]) h3 rfl rfl (by simp) fun i hi => by
    have : i = 0 ∨ i = 1 := by simp at hi; omega
    rcases this with rfl | rfl
    · exact (h1.below hb1).below hb2
    · exact h2.below hb2
theorem lit2_below (w : World) (x y : List Int) (n m : Nat) {e : TypeId} : Below w.heap.size w (((w.alloc (.cells (ints x).toArray 3)).alloc (.cells (ints y).toArray 3)).alloc (.cells #[.slice (some ⟨w.heap.size, 0, none⟩) n n, .slice (some ⟨w.heap.size + 1, 0, none⟩) m m] e)) :=
  (((Below.refl _ _).alloc (Nat.le_refl _) _).alloc (by simp) _).alloc (by simp; omega) _
theorem lit3 (w : World) (x y z : List Int) (hx : Fits x) (hy : Fits y) (hz : Fits z) {n m l : Nat} (hn : x.length = n) (hm : y.length = m) (hl : z.length = l) (hs : n ≤ 1000 ∧ m ≤ 1000 ∧ l ≤ 1000) {e : TypeId} :
    Tab ((((w.alloc (.cells (ints x).toArray 3)).alloc (.cells (ints y).toArray 3)).alloc (.cells (ints z).toArray 3)).alloc (.cells #[.slice (some ⟨w.heap.size, 0, none⟩) n n, .slice (some ⟨w.heap.size + 1, 0, none⟩) m m, .slice (some ⟨w.heap.size + 1 + 1, 0, none⟩) l l] e)) (.slice (some ⟨w.heap.size + 1 + 1 + 1, 0, none⟩) 3 3) [x, y, z] := by
  have h1 := ints_lit w x hx n hn hs.1
  have h2 := ints_lit (w.alloc (.cells (ints x).toArray 3)) y hy m hm hs.2.1
  have h3 := ints_lit ((w.alloc (.cells (ints x).toArray 3)).alloc (.cells (ints y).toArray 3)) z hz l hl hs.2.2
  have h4 := tab_three _ _ _ _ _ _ _ (h1.below (((Below.refl _ _).alloc (Nat.le_refl _) _).alloc (by simp) _)) (h2.below ((Below.refl _ _).alloc (Nat.le_refl _) _)) h3 (e := e)
  simp only [World.size_alloc] at h4
  exact h4
theorem lit3_below (w : World) (x y z : List Int) (n m l : Nat) {e : TypeId} : Below w.heap.size w ((((w.alloc (.cells (ints x).toArray 3)).alloc (.cells (ints y).toArray 3)).alloc (.cells (ints z).toArray 3)).alloc (.cells #[.slice (some ⟨w.heap.size, 0, none⟩) n n, .slice (some ⟨w.heap.size + 1, 0, none⟩) m m, .slice (some ⟨w.heap.size + 1 + 1, 0, none⟩) l l] e)) :=
  ((((Below.refl _ _).alloc (Nat.le_refl _) _).alloc (by simp) _).alloc (by simp; omega) _).alloc (by simp; omega) _
theorem short_of {l : List W} {m : Nat} (h : (l.all fun x => decide (x.length ≤ m)) = true) : ∀ j, (l.getD j []).length ≤ m := fun j => by
  rcases Nat.lt_or_ge j l.length with hj | hj
  · rw [List.getD_eq_getElem?_getD, List.getElem?_eq_getElem hj]
    exact of_decide_eq_true (List.all_eq_true.1 h _ (List.getElem_mem hj))
  · rw [List.getD_eq_getElem?_getD, List.getElem?_eq_none hj]
    exact Nat.zero_le _
theorem enumK (g : Int) (rels sub : List W) (limit : Int) (T : Tb) (a b c : Int) (h : enumE g rels sub limit = (T, (a, b), c)) (h1 : (sub.all fun x => decide (x.length ≤ 100000)) = true) (h2 : sub.length ≤ 1000000) (_h3 : (rels.all fun x => decide (x.length ≤ 100000)) = true) (_h4 : rels.length ≤ 1000000) (W : World) (vr vs : Value) (hr : Tab W vr rels) (hs : Tab W vs sub) :
    Calls Try.prog 32 #[.agg #[.int .i64 g, vr], vs, .int .i64 limit] W fun e w' => (∃ u, e = .returned (.tuple #[u, .agg #[.int .i64 a, .int .i64 b, .int .i64 0], .int .i64 c]) ∧ Tab w' u T) ∧ Below W.heap.size W w' :=
  (enum32_any W vr vs g rels sub limit hr hs (short_of h1) h2).mono fun e w' (⟨⟨u, h5, h6⟩, h7⟩ : EnumPost g rels sub limit W e w') => by
    rw [h] at h5 h6
    exact ⟨⟨u, h5, h6⟩, h7⟩
theorem stdK (g : Int) (t : Tb) (b : Int) (T : Tb) (c : Int) (h : stdE g t b = (T, c)) (W : World) (v : Value) (ht : Tab W v t) : Calls Try.prog 48 #[.int .i64 g, v, .int .i64 b] W fun e w' => (∃ u, e = .returned (.tuple #[u, .int .i64 c]) ∧ Tab w' u T) ∧ Below W.heap.size W w' :=
  (std48_any W v g t b ht).mono fun e w' (⟨⟨u, h5, h6⟩, h7⟩ : StdPost g t b W e w') => by
    rw [h] at h5 h6
    exact ⟨⟨u, h5, h6⟩, h7⟩
theorem checkK (g : Int) (t : Tb) (a b : Int) (h : check g t = (a, b)) (W : World) (v : Value) (ht : Tab W v t) : Calls Try.prog 43 #[.int .i64 g, v] W fun e w' => e = .returned (.tuple #[.int .i64 a, .int .i64 b]) ∧ Below W.heap.size W w' :=
  (check43_any W v g t ht).mono fun e w' (⟨h5, h7⟩ : CheckPost g t W e w') => by
    rw [h] at h5
    exact ⟨h5, h7⟩
theorem repsK (g : Int) (t : Tb) (T : Tb) (c : Int) (h : repsE g t = (T, c)) (W : World) (v : Value) (ht : Tab W v t) : Calls Try.prog 50 #[.int .i64 g, v] W fun e w' => (∃ u, e = .returned (.tuple #[u, .int .i64 c]) ∧ Tab w' u T) ∧ Below W.heap.size W w' :=
  (reps50_any W v g t ht).mono fun e w' (⟨⟨u, h5, h6⟩, h7⟩ : RepsPost g t W e w') => by
    rw [h] at h5 h6
    exact ⟨⟨u, h5, h6.at_⟩, h7⟩
theorem imgK (g : Int) (t : Tb) (T : Tb) (c : Int) (h : imgE g t = (T, c)) (W : World) (v : Value) (ht : Tab W v t) : Calls Try.prog 53 #[.int .i64 g, v] W fun e w' => (∃ u, e = .returned (.tuple #[u, .int .i64 c]) ∧ Tab w' u T) ∧ Below W.heap.size W w' :=
  (img53_any W v g t ht).mono fun e w' (⟨⟨u, h5, h6⟩, h7⟩ : ImgPost g t W e w') => by
    rw [h] at h5 h6
    exact ⟨⟨u, h5, h6⟩, h7⟩
theorem traceK (g : Int) (t : Tb) (r : Int) (ws : List Int) (a : Int) (b : Bool) (h : traceE g t r ws = (a, b)) (W : World) (v u : Value) (ht : Tab W v t) (hu : IntsAt W u ws) : Calls Try.prog 40 #[.int .i64 g, v, .int .i64 r, u] W fun e w' => e = .returned (.tuple #[.int .i64 a, .bool b]) ∧ Below W.heap.size W w' :=
  (trace40_any W v u g t r ws ht hu).mono fun e w' (⟨h5, h7⟩ : TracePostE g t r ws W e w') => by
    rw [h] at h5
    exact ⟨h5, h7⟩
theorem holdsK (g : Int) (rels sub : List W) (t : Tb) (a : Bool) (b : Int) (h : holdsE g rels sub t = (a, b)) (W : World) (vr vs vt : Value) (hr : Tab W vr rels) (hs : Tab W vs sub) (ht : Tab W vt t) : Calls Try.prog 35 #[.agg #[.int .i64 g, vr], vs, vt] W fun e w' => e = .returned (.tuple #[.bool a, .int .i64 b]) ∧ Below W.heap.size W w' :=
  (holds35_any W vr vs vt g rels sub t hr hs ht).mono fun e w' (⟨h5, h7⟩ : HoldsPost g rels sub t W e w') => by
    rw [h] at h5
    exact ⟨h5, h7⟩
set_option maxRecDepth 100000 in
set_option maxHeartbeats 8000000 in
theorem known9_any (w : World) : Calls Try.prog 9 #[] w fun e w' => e = .returned (.bool true) ∧ Below w.heap.size w w' := by
  have HE1 := Lib.hid (enumK 1 [[1, 1, 1]] [] 100 _ 3 3 0 (by decide +kernel : enumE 1 [[1, 1, 1]] [] 100 = ([[1, 2], [2, 0], [0, 1]], (3, 3), 0)) (by decide) (by decide) (by decide) (by decide))
  have HE2 := Lib.hid (enumK 1 [] [] 5 _ 0 0 12 (by decide +kernel : enumE 1 [] [] 5 = ([], (0, 0), 12)) (by decide) (by decide) (by decide) (by decide))
  have HE3 := Lib.hid (enumK 1 [[1]] [] 1 _ 1 1 0 (by decide +kernel : enumE 1 [[1]] [] 1 = ([[0, 0]], (1, 1), 0)) (by decide) (by decide) (by decide) (by decide))
  have HE4 := Lib.hid (enumK 2 smallT [[3]] 9 _ 0 0 2 (by decide +kernel : enumE 2 smallT [[3]] 9 = ([], (0, 0), 2)) (by decide) (by decide) (by decide) (by decide))
  have HE5 := Lib.hid (enumK 2 smallT [] 0 _ 0 0 2 (by decide +kernel : enumE 2 smallT [] 0 = ([], (0, 0), 2)) (by decide) (by decide) (by decide) (by decide))
  have HD1 := Lib.hid (stdK 1 [[2, 1], [0, 2], [1, 0]] 1 [[1, 2], [2, 0], [0, 1]] 0 (by decide +kernel))
  have HD2 := Lib.hid (stdK 1 [[1, 1], [0, 0], [2, 2]] 0 [] 13 (by decide +kernel))
  have HCK := Lib.hid (checkK 1 [[1, 0], [0, 1]] 14 0 (by decide +kernel))
  have HRE := Lib.hid (repsK 2 threeT [[], [2], [-2]] 0 (by decide +kernel))
  have HIM := Lib.hid (imgK 2 threeT [[0, 2, 1], [1, 2, 0]] 0 (by decide +kernel))
  have HTR := Lib.hid (traceK 2 threeT 0 [2, 1] 2 true (by decide +kernel))
  have HH1 := Lib.hid (holdsK 2 smallT [[1]] threeT true 0 (by decide +kernel))
  have HH2 := Lib.hid (holdsK 2 smallT [[2]] threeT false 0 (by decide +kernel))
  have HPL : Hid (∀ W v, Tab W v [[], [2], [-2]] → Calls Try.prog 52 #[v] W fun e w' => (∃ u, e = .returned u ∧ Tab w' u [[], [2], [-2]]) ∧ Below W.heap.size W w') := Lib.hid fun W v h => plain52_any W v _ h (by decide)
  have HSM : Hid (∀ (W : World) (a b : Value) (T : Tb), Tab W a T → Tab W b T → Calls Try.prog 34 #[a, b] W fun e w'' => e = .returned (.bool true) ∧ Below W.heap.size W w'') := Lib.hid fun W a b T h1 h2 => (same18_any W a b _ _ h1 h2).mono fun e w'' ⟨h, q, h'⟩ => ⟨h.trans (ret_bool (decide_eq_true rfl)), h' ▸ below_drewN (Below.refl _ _) q⟩
  have hq := eql49
  have HB0 := Lib.hid (Below.refl w.heap.size w)
  have ht := lit1 (w) [1, 1, 1] (fits_lit (by decide)) rfl (by decide) (e := 25)
  have hx := lit1_below (w) [1, 1, 1] 3 (e := 25)
  have HaT := Lib.hid ht
  have HaB := Lib.hid hx
  clear ht hx
  go_enter Try.func9, Try.ntmps9
  go_wp2_with fail
  refine (HE1.out _ _ _ HaT.out tab_nil).mono ?_
  rintro e v1 ⟨⟨u1, rfl, ht⟩, hb⟩
  have HB1 := Lib.hid (bl3 HaB.out hb)
  have hx := kept_tab.below ht ((Below.refl _ _).alloc (Nat.le_refl _) (.cells #[.int .i64 3, .int .i64 3, .int .i64 0] 49))
  obtain ⟨A1, c1, rfl⟩ := Tab.form ht
  have HX1 := Lib.hid (HB1.out.alloc HB1.out.size (.cells #[.int .i64 3, .int .i64 3, .int .i64 0] 49))
  have HT1 := Lib.hid hx
  clear ht hx
  have ht := lit3 (v1.alloc (.cells #[.int .i64 3, .int .i64 3, .int .i64 0] 49)) [1, 2] [2, 0] [0, 1] (fits_lit (by decide)) (fits_lit (by decide)) (fits_lit (by decide)) rfl rfl rfl (by decide) (e := 24)
  have hx := lit3_below (v1.alloc (.cells #[.int .i64 3, .int .i64 3, .int .i64 0] 49)) [1, 2] [2, 0] [0, 1] 2 2 2 (e := 24)
  simp only [World.size_alloc] at ht hx
  replace hx := below_sz hx
  have HbT := Lib.hid ht
  have HbB := Lib.hid hx
  clear ht hx
  have HT1' := Lib.hid (kept_tab.below HT1.out (HbB.out))
  clear hb HE1 HaT HaB HT1
  go_wp2_with fail
  refine (HSM.out _ _ _ _ HT1'.out HbT.out).mono ?_
  rintro e v2 ⟨rfl, hb⟩
  have HB2 := Lib.hid (bl3 (bl3 HX1.out HbB.out) hb)
  clear hb HT1' HbT HbB HX1
  go_wp2_with fail
  refine (HE2.out _ _ _ tab_nil tab_nil).mono ?_
  rintro e v3 ⟨⟨u3, rfl, ht⟩, hb⟩
  have HB3 := Lib.hid (bl3 HB2.out hb)
  obtain ⟨A3, c3, rfl⟩ := Tab.form ht
  have HX3 := Lib.hid (HB3.out.alloc HB3.out.size (.cells #[.int .i64 0, .int .i64 0, .int .i64 0] 49))
  have ht := lit1 (v3.alloc (.cells #[.int .i64 0, .int .i64 0, .int .i64 0] 49)) [1] (fits_lit (by decide)) rfl (by decide) (e := 25)
  have hx := lit1_below (v3.alloc (.cells #[.int .i64 0, .int .i64 0, .int .i64 0] 49)) [1] 1 (e := 25)
  simp only [World.size_alloc] at ht hx
  replace hx := below_sz hx
  have HcT := Lib.hid ht
  have HcB := Lib.hid hx
  clear ht hx
  clear hb HE2 ht
  go_wp2_with fail
  refine (HE3.out _ _ _ HcT.out tab_nil).mono ?_
  rintro e v4 ⟨⟨u4, rfl, ht⟩, hb⟩
  have HB4 := Lib.hid (bl3 (bl3 HX3.out HcB.out) hb)
  obtain ⟨A4, c4, rfl⟩ := Tab.form ht
  have HX4 := Lib.hid (HB4.out.alloc HB4.out.size (.cells #[.int .i64 1, .int .i64 1, .int .i64 0] 49))
  have HT4 := Lib.hid (kept_tab.below ht ((Below.refl _ _).alloc (Nat.le_refl _) (.cells #[.int .i64 1, .int .i64 1, .int .i64 0] 49)))
  have HN4 : Hid (∀ W, Below (v4.alloc (.cells #[.int .i64 1, .int .i64 1, .int .i64 0] 49)).heap.size (v4.alloc (.cells #[.int .i64 1, .int .i64 1, .int .i64 0] 49)) W → W.cell? ⟨v4.heap.size, 0, none⟩ = some (.int .i64 1) ∧ W.cell? ⟨v4.heap.size, 1, none⟩ = some (.int .i64 1) ∧ W.cell? ⟨v4.heap.size, 2, none⟩ = some (.int .i64 0)) := Lib.hid fun W h => cells49 ((h.block _ (by simp)).trans (heap_alloc_new v4 _))
  clear hb HE3 ht HcT HcB
  go_wp2_with fail
  refine (small55_any _).mono ?_
  rintro e v5 ⟨⟨A5, c5, rfl, ht⟩, hb⟩
  have HB5 := Lib.hid (bl3 HX4.out hb)
  have HC5 := Lib.hid hb
  have HP5 := Lib.hid ht
  clear ht
  have ht := lit1 (v5) [3] (fits_lit (by decide)) rfl (by decide) (e := 25)
  have hx := lit1_below (v5) [3] 1 (e := 25)
  have HdT := Lib.hid ht
  have HdB := Lib.hid hx
  clear ht hx
  have HP5' := Lib.hid (kept_tab.below HP5.out HdB.out)
  clear hb HX4
  go_wp2_with fail
  refine (HE4.out _ _ _ HP5'.out HdT.out).mono ?_
  rintro e v6 ⟨⟨u6, rfl, ht⟩, hb⟩
  have HB6 := Lib.hid (bl3 (bl3 HB5.out HdB.out) hb)
  have HC6 := Lib.hid (bl3 (bl3 HC5.out HdB.out) hb)
  obtain ⟨A6, c6, rfl⟩ := Tab.form ht
  have HX6 := Lib.hid (HB6.out.alloc HB6.out.size (.cells #[.int .i64 0, .int .i64 0, .int .i64 0] 49))
  have HY6 := Lib.hid (HC6.out.alloc HC6.out.size (.cells #[.int .i64 0, .int .i64 0, .int .i64 0] 49))
  clear hb HE4 ht HdT HdB HP5 HP5'
  go_wp2_with fail
  refine (small55_any _).mono ?_
  rintro e v7 ⟨⟨A7, c7, rfl, ht⟩, hb⟩
  have HB7 := Lib.hid (bl3 HX6.out hb)
  have HC7 := Lib.hid (bl3 HY6.out hb)
  have HP7 := Lib.hid ht
  clear hb ht HX6 HY6
  go_wp2_with fail
  refine (HE5.out _ _ _ HP7.out tab_nil).mono ?_
  rintro e v8 ⟨⟨u8, rfl, ht⟩, hb⟩
  have HB8 := Lib.hid (bl3 HB7.out hb)
  have HC8 := Lib.hid (bl3 HC7.out hb)
  obtain ⟨A8, c8, rfl⟩ := Tab.form ht
  have HX8 := Lib.hid (HB8.out.alloc HB8.out.size (.cells #[.int .i64 0, .int .i64 0, .int .i64 0] 49))
  have HY8 := Lib.hid (HC8.out.alloc HC8.out.size (.cells #[.int .i64 0, .int .i64 0, .int .i64 0] 49))
  clear ht
  have ht := lit1 (v8.alloc (.cells #[.int .i64 0, .int .i64 0, .int .i64 0] 49)) [0, 0] (fits_lit (by decide)) rfl (by decide) (e := 24)
  have hx := lit1_below (v8.alloc (.cells #[.int .i64 0, .int .i64 0, .int .i64 0] 49)) [0, 0] 2 (e := 24)
  simp only [World.size_alloc] at ht hx
  replace hx := below_sz hx
  have HfT := Lib.hid ht
  have HfB := Lib.hid hx
  clear ht hx
  have HT4' := Lib.hid (kept_tab.below HT4.out (bl3 HY8.out HfB.out))
  clear hb HE5 HP7
  go_wp2_with fail
  refine (HSM.out _ _ _ _ HT4'.out HfT.out).mono ?_
  rintro e v9 ⟨rfl, hb⟩
  have HB9 := Lib.hid (bl3 (bl3 HX8.out HfB.out) hb)
  obtain ⟨d1, d2, d3⟩ := HN4.out _ (bl3 (bl3 HY8.out HfB.out) hb)
  have ht := lit3 (v9) [2, 1] [0, 2] [1, 0] (fits_lit (by decide)) (fits_lit (by decide)) (fits_lit (by decide)) rfl rfl rfl (by decide) (e := 24)
  have hx := lit3_below (v9) [2, 1] [0, 2] [1, 0] 2 2 2 (e := 24)
  have HgT := Lib.hid ht
  have HgB := Lib.hid hx
  clear ht hx
  clear hb HT4 HT4' HfT HfB HX8 HY8 HN4
  go_wp2_with fail
  refine (HD1.out _ _ HgT.out).mono ?_
  rintro e v10 ⟨⟨u10, rfl, ht⟩, hb⟩
  have HB10 := Lib.hid (bl3 (bl3 HB9.out HgB.out) hb)
  obtain ⟨A10, c10, rfl⟩ := Tab.form ht
  have HT10 := Lib.hid ht
  clear ht d1 d2 d3
  have ht := lit3 (v10) [1, 1] [0, 0] [2, 2] (fits_lit (by decide)) (fits_lit (by decide)) (fits_lit (by decide)) rfl rfl rfl (by decide) (e := 24)
  have hx := lit3_below (v10) [1, 1] [0, 0] [2, 2] 2 2 2 (e := 24)
  have HhT := Lib.hid ht
  have HhB := Lib.hid hx
  clear ht hx
  have HT10' := Lib.hid (kept_tab.below HT10.out HhB.out)
  clear hb HD1 HgT HgB HT10
  go_wp2_with fail
  refine (HD2.out _ _ HhT.out).mono ?_
  rintro e v11 ⟨⟨u11, rfl, ht⟩, hb⟩
  have HB11 := Lib.hid (bl3 (bl3 HB10.out HhB.out) hb)
  obtain ⟨A11, c11, rfl⟩ := Tab.form ht
  have HT11 := Lib.hid (kept_tab.below HT10'.out hb)
  clear ht
  have ht := lit2 (v11) [1, 0] [0, 1] (fits_lit (by decide)) (fits_lit (by decide)) rfl rfl (by decide) (e := 24)
  have hx := lit2_below (v11) [1, 0] [0, 1] 2 2 (e := 24)
  have HiT := Lib.hid ht
  have HiB := Lib.hid hx
  clear ht hx
  have HT11' := Lib.hid (kept_tab.below HT11.out HiB.out)
  clear hb HD2 HhT HhB HT11 HT10'
  go_wp2_with fail
  refine (HCK.out _ _ HiT.out).mono ?_
  rintro e v12 ⟨rfl, hb⟩
  have HB12 := Lib.hid (bl3 (bl3 HB11.out HiB.out) hb)
  have HT12 := Lib.hid (kept_tab.below HT11'.out hb)
  have ht := lit3 (v12) [1, 2] [2, 0] [0, 1] (fits_lit (by decide)) (fits_lit (by decide)) (fits_lit (by decide)) rfl rfl rfl (by decide) (e := 24)
  have hx := lit3_below (v12) [1, 2] [2, 0] [0, 1] 2 2 2 (e := 24)
  have HjT := Lib.hid ht
  have HjB := Lib.hid hx
  clear ht hx
  have HT12' := Lib.hid (kept_tab.below HT12.out HjB.out)
  clear hb HCK HiT HiB HT11' HT12
  go_wp2_with fail
  refine (HSM.out _ _ _ _ HT12'.out HjT.out).mono ?_
  rintro e v13 ⟨rfl, hb⟩
  have HB13 := Lib.hid (bl3 (bl3 HB12.out HjB.out) hb)
  clear hb HT12' HjT HjB
  go_wp2_with fail
  refine (three56_any _).mono ?_
  rintro e v14 ⟨⟨u14, rfl, ht⟩, hb⟩
  have HB14 := Lib.hid (bl3 HB13.out hb)
  obtain ⟨A14, c14, rfl⟩ := Tab.form ht
  have HT14 := Lib.hid ht
  clear hb ht
  go_wp2_with fail
  refine (HRE.out _ _ HT14.out).mono ?_
  rintro e v15 ⟨⟨u15, rfl, ht⟩, hb⟩
  have HB15 := Lib.hid (bl3 HB14.out hb)
  obtain ⟨A15, c15, rfl⟩ := Tab.form ht
  have HR15 := Lib.hid ht
  clear hb ht HRE HT14
  go_wp2_with fail
  refine (three56_any _).mono ?_
  rintro e v16 ⟨⟨u16, rfl, ht⟩, hb⟩
  have HB16 := Lib.hid (bl3 HB15.out hb)
  have HR16 := Lib.hid (kept_tab.below HR15.out hb)
  obtain ⟨A16, c16, rfl⟩ := Tab.form ht
  have HT16 := Lib.hid ht
  clear hb ht HR15
  go_wp2_with fail
  refine (HIM.out _ _ HT16.out).mono ?_
  rintro e v17 ⟨⟨u17, rfl, ht⟩, hb⟩
  have HB17 := Lib.hid (bl3 HB16.out hb)
  have HR17 := Lib.hid (kept_tab.below HR16.out hb)
  obtain ⟨A17, c17, rfl⟩ := Tab.form ht
  have HI17 := Lib.hid ht
  clear hb ht HR16 HIM HT16
  go_wp2_with fail
  refine (three56_any _).mono ?_
  rintro e v18 ⟨⟨u18, rfl, ht⟩, hb⟩
  have HB18 := Lib.hid (bl3 HB17.out hb)
  obtain ⟨A18, c18, rfl⟩ := Tab.form ht
  have hal : Below v18.heap.size v18 (v18.alloc (.cells (ints [2, 1]).toArray 3)) := (Below.refl _ _).alloc (Nat.le_refl _) _
  have HR18 := Lib.hid (kept_tab.below (kept_tab.below HR17.out hb) hal)
  have HI18 := Lib.hid (kept_tab.below (kept_tab.below HI17.out hb) hal)
  have HT18 := Lib.hid (kept_tab.below ht hal)
  have HW18 := Lib.hid (ints_lit v18 [2, 1] (fits_lit (by decide)) 2 rfl (by omega))
  have HZ18 := Lib.hid (bl3 HB18.out hal)
  clear hb ht hal HR17 HI17
  go_wp2_with fail
  refine (HTR.out _ _ _ HT18.out HW18.out).mono ?_
  rintro e v19 ⟨rfl, hb⟩
  have HB19 := Lib.hid (bl3 HZ18.out hb)
  have HR19 := Lib.hid (kept_tab.below HR18.out hb)
  have HI19 := Lib.hid (kept_tab.below HI18.out hb)
  clear hb HTR HT18 HW18 HZ18 HR18 HI18
  go_wp2_with fail
  refine (HPL.out _ _ HR19.out).mono ?_
  rintro e v20 ⟨⟨u20, rfl, ht⟩, hb⟩
  have HB20 := Lib.hid (bl3 HB19.out hb)
  have HI20 := Lib.hid (kept_tab.below HI19.out hb)
  obtain ⟨A20, c20, rfl⟩ := Tab.form ht
  have HR20 := Lib.hid ht
  clear ht
  have ht := lit3 (v20) [] [2] [-2] (fits_lit (by decide)) (fits_lit (by decide)) (fits_lit (by decide)) rfl rfl rfl (by decide) (e := 24)
  have hx := lit3_below (v20) [] [2] [-2] 0 1 1 (e := 24)
  have HkT := Lib.hid ht
  have HkB := Lib.hid hx
  clear ht hx
  have HR20' := Lib.hid (kept_tab.below HR20.out HkB.out)
  have HI20' := Lib.hid (kept_tab.below HI20.out HkB.out)
  clear hb HPL HR19 HR20 HI19 HI20
  go_wp2_with fail
  refine (HSM.out _ _ _ _ HR20'.out HkT.out).mono ?_
  rintro e v21 ⟨rfl, hb⟩
  have HB21 := Lib.hid (bl3 (bl3 HB20.out HkB.out) hb)
  have HI21 := Lib.hid (kept_tab.below HI20'.out hb)
  have ht := lit2 (v21) [0, 2, 1] [1, 2, 0] (fits_lit (by decide)) (fits_lit (by decide)) rfl rfl (by decide) (e := 24)
  have hx := lit2_below (v21) [0, 2, 1] [1, 2, 0] 3 3 (e := 24)
  have HlT := Lib.hid ht
  have HlB := Lib.hid hx
  clear ht hx
  have HI21' := Lib.hid (kept_tab.below HI21.out HlB.out)
  clear hb HkT HkB HR20' HI20' HI21
  go_wp2_with fail
  refine (HSM.out _ _ _ _ HI21'.out HlT.out).mono ?_
  rintro e v22 ⟨rfl, hb⟩
  have HB22 := Lib.hid (bl3 (bl3 HB21.out HlB.out) hb)
  clear hb HlT HlB HI21'
  go_wp2_with fail
  refine (small55_any _).mono ?_
  rintro e v23 ⟨⟨A23, c23, rfl, ht⟩, hb⟩
  have HB23 := Lib.hid (bl3 HB22.out hb)
  have HP23 := Lib.hid ht
  clear ht
  have ht := lit1 (v23) [1] (fits_lit (by decide)) rfl (by decide) (e := 25)
  have hx := lit1_below (v23) [1] 1 (e := 25)
  have HmT := Lib.hid ht
  have HmB := Lib.hid hx
  clear ht hx
  have HP23' := Lib.hid (kept_tab.below HP23.out HmB.out)
  clear hb HP23 HB22
  go_wp2_with fail
  refine (three56_any _).mono ?_
  rintro e v24 ⟨⟨u24, rfl, ht⟩, hb⟩
  have HB24 := Lib.hid (bl3 (bl3 HB23.out HmB.out) hb)
  have HP24 := Lib.hid (kept_tab.below HP23'.out hb)
  have HW24 := Lib.hid (kept_tab.below HmT.out hb)
  obtain ⟨A24, c24, rfl⟩ := Tab.form ht
  have HT24 := Lib.hid ht
  clear hb ht HmT HmB HP23'
  go_wp2_with fail
  refine (HH1.out _ _ _ _ HP24.out HW24.out HT24.out).mono ?_
  rintro e v25 ⟨rfl, hb⟩
  have HB25 := Lib.hid (bl3 HB24.out hb)
  clear hb HH1 HP24 HW24 HT24
  go_wp2_with fail
  refine (small55_any _).mono ?_
  rintro e v26 ⟨⟨A26, c26, rfl, ht⟩, hb⟩
  have HB26 := Lib.hid (bl3 HB25.out hb)
  have HP26 := Lib.hid ht
  clear ht
  have ht := lit1 (v26) [2] (fits_lit (by decide)) rfl (by decide) (e := 25)
  have hx := lit1_below (v26) [2] 1 (e := 25)
  have HnT := Lib.hid ht
  have HnB := Lib.hid hx
  clear ht hx
  have HP26' := Lib.hid (kept_tab.below HP26.out HnB.out)
  clear hb HP26 HB25
  go_wp2_with fail
  refine (three56_any _).mono ?_
  rintro e v27 ⟨⟨u27, rfl, ht⟩, hb⟩
  have HB27 := Lib.hid (bl3 (bl3 HB26.out HnB.out) hb)
  have HP27 := Lib.hid (kept_tab.below HP26'.out hb)
  have HW27 := Lib.hid (kept_tab.below HnT.out hb)
  obtain ⟨A27, c27, rfl⟩ := Tab.form ht
  have HT27 := Lib.hid ht
  clear hb ht HnT HnB HP26'
  go_wp2_with fail
  refine (HH2.out _ _ _ _ HP27.out HW27.out HT27.out).mono ?_
  rintro e v28 ⟨rfl, hb⟩
  have HB28 := Lib.hid (bl3 HB27.out hb)
  clear hb HH2 HP27 HW27 HT27
  go_wp2_with fail
  refine (awake31_any _).mono ?_
  rintro e v29 ⟨rfl, hb⟩
  have HB29 := Lib.hid (bl3 HB28.out hb)
  clear hb
  go_wp2_with fail
  go_ret
  exact ⟨rfl, HB29.out⟩
end Go.Proofs
