/- The program's Images; The walk of CosetTables; Arguments opened: lists of numbers, tables, presentations. -/
import Derived.Test.YtcfighimnkfmeaaCtCS14
import Derived.Test.YtcfighimnkfmeaaCtCS11
import Derived.Test.YtcfighimnkfmeaaCtCS7
import Derived.Test.YtcfighimnkfmeaaCtCS3
import Derived.ProofKit
import Derived.Deep.Slices
import Derived.Deep.Strs
namespace Go.Proofs
open Go.RowKit Go.Shelf Go.Proofs.Ct Go.Maps
/-- a list of g lists of the call's own, each in its own block -/
structure ImgS (w0 wr : World) (B g : Nat) (f : Nat → List Int) (vs : Nat → Value) : Prop where
  below : Below w0.heap.size w0 wr
  ge : w0.heap.size ≤ B
  blk : ∃ C, wr.heap[B]? = some (.cells C 24 (0, 0)) ∧ ∀ c, c < g → C[c]? = some (vs c)
  row : ∀ c, c < g → OwnI w0.heap.size wr (vs c) (f c)
  ap : ∀ c d, c < g → d < g → c ≠ d → ∀ r, (vs c).ownBlock = some r → (vs d).ownBlock ≠ some r
section
variable {w0 wr : World} {B g : Nat} {f : Nat → List Int} {vs : Nat → Value}
theorem ImgS.lt (h : ImgS w0 wr B g f vs) : B < wr.heap.size := by obtain ⟨C, hC, -⟩ := h.blk; exact (Array.getElem?_eq_some_iff.1 hC).1
theorem ImgS.own (h : ImgS w0 wr B g f vs) {c : Nat} (hc : c < g) : (vs c).ownBlock ≠ some B := fun e => by
  obtain ⟨-, C, hC⟩ := owns_block (h.row c hc) B e
  obtain ⟨C', hC', -⟩ := h.blk
  rw [hC'] at hC
  cases hC
theorem ImgS.below' {w' : World} (h : ImgS w0 wr B g f vs) (hb : Below wr.heap.size wr w') : ImgS w0 w' B g f vs := by
  obtain ⟨C, hC, h1⟩ := h.blk
  exact ⟨h.below.trans (hb.mono h.below.size), h.ge, ⟨C, (hb.block _ h.lt).trans hC, h1⟩, fun c hc => owns_below (h.row c hc) hb, h.ap⟩
theorem ImgS.cell (h : ImgS w0 wr B g f vs) {c : Nat} (hc : c < g) : wr.cell? ⟨B, c, none⟩ = some (vs c) := by
  obtain ⟨C, hC, h1⟩ := h.blk
  rw [cell_of_row _ _ _ _ _ _ hC]
  exact h1 c hc
theorem ImgS.frozen (h : ImgS w0 wr B g f vs) (c : Nat) : wr.frozen? ⟨B, c, none⟩ = false := by
  obtain ⟨C, hC, -⟩ := h.blk
  simp [World.frozen?, hC]
theorem ImgS.push (h : ImgS w0 wr B g f vs) {c : Nat} (hc : c < g) (z : Int) (hl : (f c).length ≤ 1000000) :
    ∃ A' c' w', (Builtin.append_ #[24, 24] 24 #[vs c, .slice (some ⟨wr.heap.size, 0, none⟩) 1 1]).run Try.prog (wr.alloc (.cells #[.int .i64 z] 3)) = .ok (.slice A' ((f c).length + 1) c') w' ∧
      w'.cell? ⟨B, c, none⟩ = some (vs c) ∧ w'.frozen? ⟨B, c, none⟩ = false ∧
      ImgS w0 (w'.setCell ⟨B, c, none⟩ (.slice A' ((f c).length + 1) c')) B g (fun d => if d = c then f c ++ [z] else f d) (fun d => if d = c then .slice A' ((f c).length + 1) c' else vs d) := by
  obtain ⟨A', c', w', hr, ho, hg, hw⟩ := push_int 24 24 Try.underlying24 wr w0.heap.size (vs c) (f c) (h.row c hc) z (by omega) h.below.size
  obtain ⟨C, hC, h1⟩ := h.blk
  have hCB : w'.heap[B]? = some (.cells C 24 (0, 0)) := (hg.block B h.lt (fun e => h.own hc e.symm)).trans hC
  have hrow : ∀ d, d < g → d ≠ c → OwnI w0.heap.size w' (vs d) (f d) := fun d hd hne => owns_keep (h.row d hd) fun r hr' => hg.block r (owns_lt (h.row d hd) hr') fun e => h.ap d c hd hc hne r hr' e.symm
  have hset : ∀ {u : Value} {x : List Int}, OwnI w0.heap.size w' u x → OwnI w0.heap.size (w'.setCell ⟨B, c, none⟩ (.slice A' ((f c).length + 1) c')) u x := fun {u x} hu => owns_keep hu fun r hr' => Below.heap_setCell w' ⟨B, c, none⟩ _ r fun e => by
    have e' : r = B := e
    obtain ⟨-, C', hC'⟩ := owns_block hu r hr'
    rw [e', hCB] at hC'
    cases hC'
  refine ⟨A', c', w', hr, by rw [cell_of_row _ _ _ _ _ _ hCB]; exact h1 c hc, by simp [World.frozen?, hCB], ?_, h.ge, ⟨C.setIfInBounds c (.slice A' ((f c).length + 1) c'), by simp [World.setCell, Array.getElem?_modify, hCB], fun d hd => ?_⟩, fun d hd => ?_, fun d1 d2 hd1 hd2 hne r hr1 => ?_⟩
  · exact (h.below.grown hg h.below.size (fun r hr' => (owns_block (h.row c hc) r hr').1)).setCell h.ge _
  · by_cases e : d = c
    · subst e
      have hsz : d < C.size := (Array.getElem?_eq_some_iff.1 (h1 d hd)).1
      simp [hsz]
    · skip
      rw [if_neg e, Array.getElem?_setIfInBounds_ne (fun e' => e e'.symm)]
      exact h1 d hd
  · by_cases e : d = c
    · rw [if_pos e, if_pos e]
      exact hset ho
    · rw [if_neg e, if_neg e]
      exact hset (hrow d hd e)
  · skip
    by_cases e1 : d1 = c
    · rw [if_pos e1] at hr1
      rw [if_neg (by omega)]
      rcases hw with hw | ⟨r', hw, hge⟩
      · rw [hw] at hr1
        exact h.ap c d2 hc hd2 (by omega) r hr1
      · rw [hw] at hr1
        cases hr1
        intro e
        have := owns_lt (h.row d2 hd2) e
        omega
    · rw [if_neg e1] at hr1
      by_cases e2 : d2 = c
      · rw [if_pos e2]
        rcases hw with hw | ⟨r', hw, hge⟩
        · rw [hw]
          exact h.ap d1 c hd1 hc (by omega) r hr1
        · rw [hw]
          intro e
          cases e
          have := owns_lt (h.row d1 hd1) hr1
          omega
      · rw [if_neg e2]
        exact h.ap d1 d2 hd1 hd2 hne r hr1
theorem ImgS.tab (h : ImgS w0 wr B g f vs) (hf : ∀ c, c < g → Fits (f c)) (hg : g ≤ 1000000) : Tab wr (.slice (some ⟨B, 0, none⟩) g g) ((List.range g).map f) := by
  refine ⟨(List.range g).map vs, ⟨_, g, g, rfl, by simp, Nat.le_refl _, by simp [maxLen]; omega, fun _ => ⟨B, 0, rfl, fun j v hj => ?_⟩⟩, by simp, fun i hi => ?_⟩
  · have hj' : j < g := by have := (List.getElem?_eq_some_iff.1 hj).1; simpa using this
    rw [Nat.zero_add, h.cell hj']
    simpa [hj'] using hj
  · have hi' : i < g := by simpa using hi
    refine ⟨vs i, by simp [hi'], ?_⟩
    have := OwnI.ints (h.row i hi') (hf i hi')
    simpa [List.getD_eq_getElem?_getD, hi'] using this
end
theorem made24 (n : Nat) : madeCells (Value.slice none 0 0).cells n = Array.replicate n (.slice none 0 0) := by
  apply Array.ext_getElem?
  intro k
  simp only [madeCells, Value.cells, Array.getElem?_map, Array.getElem?_range, Array.getElem?_replicate]
  by_cases h : k < n
  · simp [h, Nat.mod_one]
  · simp [h]
theorem make22r (w : World) (n : Nat) (hn : n ≤ 100000) : (Instr.makeSlice 22 (.int .i64 (n : Int)) (.int .i64 (n : Int))).run Try.prog w =
    .ok (.slice (some ⟨w.heap.size, 0, none⟩) n n) (w.alloc (.cells (Array.replicate n (.slice none 0 0)) 24)) := by
  obtain ⟨i, hi, hz, hs, hb⟩ := info24p
  have := run_makeSlice (P := Try.prog) w 22 24 i (.slice none 0 0) Try.underlying22 hi hz .i64 .i64 n n (by omega) (Int.le_refl _) (by rw [hs]; simp; omega) (by rw [hb]; omega) (by omega)
  rw [this, hs, Int.toNat_natCast, Nat.mul_one, made24]
theorem ImgS.first {w0 w : World} (h : Below w0.heap.size w0 w) (g : Nat) : ImgS w0 (w.alloc (.cells (Array.replicate g (.slice none 0 0)) 24)) w.heap.size g (fun _ => []) (fun _ => .slice none 0 0) :=
  ⟨h.alloc h.size _, h.size, ⟨_, heap_alloc_new w _, fun c hc => by simp [hc]⟩, fun _ _ => World.ownsRow_nil _ _ _ _, fun _ _ _ _ _ _ hr => by cases hr⟩
theorem mul2 (w : World) (k : Nat) (hk : k ≤ 1000) : (binOp .mul 3 (.int .i64 2) (.int .i64 (k : Int))).run Try.prog w = .ok (.int .i64 (2 * (k : Int))) w := by
  have e : wrap64 (2 * (k : Int)) = 2 * (k : Int) := IntWalk.wrap64_in _ ⟨by omega, by omega⟩
  simp [go_sem, IntWalk.i64_left, e]
theorem r_mul2 {o : Oper} {a : Act} {w : World} (x : Operand) (k : Nat) (hk : k ≤ 1000) (ho : o.op = .binOp .mul 3 (.const (.int .i64 2)) x 3) (hx : a.eval x = .int .i64 (k : Int)) : (execOp a.eval o).run Try.prog w = .ok (.value (.int .i64 (2 * (k : Int)))) w := by
  have h := mul2 w k hk
  have hc : a.eval (.const (.int .i64 2)) = .int .i64 2 := rfl
  unfold execOp
  have hg : (eqGuard BinOp.mul 3 (.const (.int .i64 2)) x (.int .i64 2) (.int .i64 (k : Int))).run Try.prog w = .ok () w := rfl
  simp only [ho, hx, hc, Sem.run_bind, hg, h, Result.andThen_ok]
  rfl
theorem idx_off {T E : TypeId} (hu : Try.prog.underlying T = some (.slice E)) (hs : ∀ w, (sizeOf E).run Try.prog w = .ok 1 w) (g o m c i : Nat) (z : Int) (hz : z = (i : Int)) (hi : i < m) (w : World) :
    (Instr.indexAt T (.slice (some ⟨g, o, none⟩) m c) (.int .i64 z)).run Try.prog w = .ok (.pointer (some ⟨g, o + i, none⟩)) w := by
  subst hz
  have h2 := Addr.add_mid g o i
  simp [Instr.indexAt, asIntOf, run_underlying hu, hs, h2, hi]
set_option maxRecDepth 100000 in
set_option maxHeartbeats 2000000 in
theorem img53_any (w : World) (v : Value) (g : Int) (t : Tb) (ht : Tab w v t) : Calls Try.prog 53 #[.int .i64 g, v] w (ImgPost g t w) := by
  have HC := Lib.hid (check43_any w v g t ht)
  have HT := Lib.hid ht
  obtain ⟨A, c, rfl, hc1, hc2, hc⟩ := ht.open_
  by_cases h1 : (check g t).1 = 0
  · obtain ⟨h0, hg, -⟩ := check_good h1
    obtain ⟨gn, rfl⟩ : ∃ n : Nat, g = n := ⟨g.toNat, by omega⟩
    rw [Int.toNat_natCast] at hg
    have hck := check_of_good hg
    have HC' : Hid (Calls Try.prog 43 #[.int .i64 (gn : Int), .slice A t.length c] w fun e w' => e = .returned (.tuple #[.int .i64 0, .int .i64 (-1)]) ∧ Below w.heap.size w w') := Lib.hid (HC.out.mono fun e w' ⟨h2, h3⟩ => by rw [hck] at h2; exact ⟨h2, h3⟩)
    have HCO : Hid (∀ w', Below w.heap.size w w' → Calls Try.prog 45 #[.slice A t.length c] w' fun e w'' => e = .returned (.bool (complete t)) ∧ Below w'.heap.size w' w'') := Lib.hid fun w' hb => complete45_any w' _ t (kept_tab.below HT.out hb)
    cases hcm : complete t with
    | false =>
      have HE : Hid (imgE (gn : Int) t = ([], 13)) := Lib.hid (by unfold imgE; rw [if_neg (by omega), if_pos hcm])
      rw [hcm] at HCO
      clear HC h1 h0 hck hg HT hcm hc ht
      unfold ImgPost
      generalize imgE (gn : Int) t = X at *
      go_enter Try.func53, Try.ntmps53
      go_wp2_with (first
        | (go_at_call 43; (refine HC'.out.mono ?_); rintro e w' ⟨rfl, hb⟩; have HB := Lib.hid hb; clear hb)
        | (go_at_call 45; (refine (HCO.out _ HB.out).mono ?_); rintro e w' ⟨rfl, hb⟩; have HB2 := Lib.hid (HB.out.trans (hb.mono HB.out.size)); clear hb))
      go_ret2
      exact ⟨⟨_, ret_of2 rfl (by rw [HE.out]), by rw [HE.out]; exact tab_nil⟩, HB2.out⟩
    | true =>
      have HE : Hid (imgE (gn : Int) t = (imgTo t gn, 0)) := Lib.hid (by unfold imgE; rw [if_neg (by omega), if_neg (by rw [hcm]; simp)]; rfl)
      rw [hcm] at HCO
      obtain ⟨bt, ot, rfl, hcell⟩ := hc (by have := hg.n1; omega)
      have HTC := Lib.hid hcell
      have HG := Lib.hid hg
      have hg0 : (0 : Int) ≤ (gn : Int) := Int.natCast_nonneg _
      have hg16 := hg.g16
      have hg16' : (gn : Int) ≤ 16 := by omega
      have hn2 := hg.n2
      clear HC h1 h0 hck hg HT hcm hc ht hcell
      unfold ImgPost
      generalize imgE (gn : Int) t = X at *
      go_enter Try.func53, Try.ntmps53
      go_wp2_with (first
        | (go_at_call 43; (refine HC'.out.mono ?_); rintro e w1 ⟨rfl, hb⟩; have HB := Lib.hid hb; clear hb)
        | (go_at_call 45; (refine (HCO.out _ HB.out).mono ?_); rintro e w2 ⟨rfl, hb⟩; have HB2 := Lib.hid (HB.out.trans (hb.mono HB.out.size)); have HI := Lib.hid (ImgS.first HB2.out gn); have HM := Lib.hid (make22r w2 gn (by omega)); clear hb)
        | ((with_reducible refine wpList_sel 25 ?_); refine wpList_val rfl (r_make 22 (.tmp 24) (.tmp 24) rfl rfl rfl HM.out) ?_))
      rename World => w2
      generalize hB : w2.heap.size = B at *
      generalize w2.alloc (.cells (Array.replicate gn (.slice none 0 0)) 24) = w3 at *
      clear hB HM HB2
      go_loopw [28] (fun i wr => ∃ r : Nat, i = .int .i64 (r : Int) ∧ r ≤ t.length ∧ ∃ vs, Hid (ImgS w wr B gn (fun c => colTo t c r) vs)) (fun i _ => t.length - (intOf i).toNat)
      case atStart => exact ⟨0, rfl, by omega, _, HI⟩
      case round =>
        clear HI
        obtain ⟨r, rfl, hr, vs, HI⟩ := hrel
        have hr0 : (0 : Int) ≤ (r : Int) := Int.natCast_nonneg _
        by_cases hlt : r < t.length
        · have hlt' : (r : Int) < (t.length : Int) := by omega
          have hrl := HG.out.len r hlt
          obtain ⟨u, hu0, hI⟩ := HTC.out r hlt
          have hu := (HI.out.below.cell (p := ⟨bt, ot + r, none⟩) (World.block_lt_of_cell? w _ hu0)).trans hu0
          have hI2 : IntsAt w u (t.row r) := hI
          obtain ⟨Au, cu, rfl, hu1, hu2, huc⟩ := hI2.open_
          obtain ⟨bu, ou, rfl, huc'⟩ := huc (by have := HG.out.g1; omega)
          have HUC := Lib.hid huc'
          have hat : ∀ c, (t.row r).getD c 0 = t.at r c := fun _ => rfl
          have HI0 : Hid (ImgS w wr B gn (fun c => colTo t c (if c < 0 then r + 1 else r)) vs) := Lib.hid (by simpa using HI.out)
          have HN := Lib.hid hrl
          rw [hrl] at hu
          clear hu0 hI hI2 huc huc' hrl hu1 hu2
          go_wp2_with fail
          go_loopw [34] (fun i wr2 => ∃ c : Nat, i = .int .i64 (c : Int) ∧ c ≤ gn ∧ ∃ vs, Hid (ImgS w wr2 B gn (fun d => colTo t d (if d < c then r + 1 else r)) vs)) (fun i _ => gn - (intOf i).toNat)
          case atStart => exact ⟨0, rfl, by omega, _, HI0⟩
          case round =>
            clear HI HI0 hu
            rename World => wr
            obtain ⟨c, rfl, hc, vs, HI⟩ := hrel
            have hc0 : (0 : Int) ≤ (c : Int) := Int.natCast_nonneg _
            by_cases hcg : c < gn
            · have hcg' : (c : Int) < (gn : Int) := by omega
              have hI1 := HI.out.below' (w' := wr.drew) (Below.refl wr.heap.size wr).drew
              obtain ⟨A8, c8, w8, hrun, hc8, hf8, hI8⟩ := hI1.push hcg (t.at r (2 * c)) (by simp [length_colTo]; omega)
              have hv0 := hI1.cell hcg
              have hbl : Below wr.drew.heap.size wr.drew (wr.drew.alloc (.cells #[.int .i64 (t.at r (2 * c))] 3)) := (Below.refl _ _).alloc (Nat.le_refl _) _
              have hv1 := (hI1.below' hbl).cell hcg
              have hcs0 := HUC.out (2 * c) (by rw [HN.out]; omega)
              have hcs := (hI1.below.cell (p := ⟨bu, ou + 2 * c, none⟩) (World.block_lt_of_cell? w _ hcs0)).trans hcs0
              rw [hat] at hcs
              have hlen : (colTo t c (if c < c then r + 1 else r)).length = r := by rw [if_neg (by omega), length_colTo]
              rw [hlen] at hrun hI8
              have hI9 : ImgS w (w8.setCell ⟨B, c, none⟩ (.slice A8 (r + 1) c8)) B gn (fun d => colTo t d (if d < c + 1 then r + 1 else r)) (fun d => if d = c then .slice A8 (r + 1) c8 else vs d) := by
                have e : (fun d => if d = c then colTo t c (if c < c then r + 1 else r) ++ [t.at r (2 * c)] else colTo t d (if d < c then r + 1 else r)) = (fun d => colTo t d (if d < c + 1 then r + 1 else r)) := by
                  funext d
                  by_cases h : d = c
                  · subst h
                    rw [if_pos rfl, if_neg (by omega), if_pos (by omega), colTo_succ]
                  · rw [if_neg h]
                    by_cases h2 : d < c
                    · rw [if_pos h2, if_pos (by omega)]
                    · rw [if_neg h2, if_neg (by omega)]
                rw [← e]
                exact hI8
              have HRUN := Lib.hid hrun
              have HC8 := Lib.hid hc8
              have HF8 := Lib.hid hf8
              have HV0 := Lib.hid hv0
              have HV1 := Lib.hid hv1
              have HY := Lib.hid hcs
              have HI9 : Hid (∃ vs, ImgS w (w8.setCell ⟨B, c, none⟩ (.slice A8 (r + 1) c8)) B gn (fun d => colTo t d (if d < c + 1 then r + 1 else r)) vs) := Lib.hid ⟨_, hI9⟩
              have HIX : Hid (∀ W, (Instr.indexAt 24 (.slice (some ⟨bu, ou, none⟩) (2 * gn) cu) (.int .i64 (2 * (c : Int)))).run Try.prog W = .ok (.pointer (some ⟨bu, ou + 2 * c, none⟩)) W) := Lib.hid fun W => idx_off Try.underlying24 size3 bu ou (2 * gn) cu (2 * c) _ (by omega) (by omega) W
              clear hI1 hrun hc8 hf8 hI8 hv0 hbl hv1 hcs0 hcs hlen hI9
              generalize t.at r (2 * c) = y at *
              generalize vs c = vc at *
              go_wp2_with fail
              refine (wpIn_wide (n := 3)).1 ?_
              refine wpIn_region_all (by kernel_rfl) 15 rfl (fun i => if i < 14 then some (37 + i) else none) (lex_of (by kernel_rfl)) (fun ls W => W = bif ls 14 then w8.setCell ⟨B, c, none⟩ (.slice A8 (r + 1) c8) else bif ls 12 then w8 else bif ls 11 then wr.drew.alloc (.cells #[.int .i64 y] 3) else wr.drew)
                (fun i v _ => v = ([.slice (some ⟨B, 0, none⟩) gn gn, .int .i64 (c : Int), .slice (some ⟨B, 0, none⟩) gn gn, .int .i64 (c : Int), .pointer (some ⟨B, c, none⟩), vc, .slice (some ⟨bu, ou, none⟩) (2 * gn) cu, .int .i64 (c : Int), .int .i64 (2 * (c : Int)), .pointer (some ⟨bu, ou + 2 * c, none⟩), .int .i64 y, .slice (some ⟨wr.heap.size, 0, none⟩) 1 1, .slice A8 (r + 1) c8, .pointer (some ⟨B, c, none⟩), undef] : List Value).getD i undef) (fun _ _ _ => True) (dm_inj (by kernel_rfl)) (fun _ _ _ _ _ _ _ _ _ h => h) (dm_lt (n := 54) (by kernel_rfl)) rfl ?_ ?_
              · intro ls q o a w2 hq ho hS2 hls hcl hP hpre
                have hcases : q = 0 ∨ q = 1 ∨ q = 2 ∨ q = 3 ∨ q = 4 ∨ q = 5 ∨ q = 6 ∨ q = 7 ∨ q = 8 ∨ q = 9 ∨ q = 10 ∨ q = 11 ∨ q = 12 ∨ q = 13 ∨ q = 14 := by
                  have : q < 15 := hq
                  omega
                rcases hcases with rfl | rfl | rfl | rfl | rfl | rfl | rfl | rfl | rfl | rfl | rfl | rfl | rfl | rfl | rfl
                · obtain rfl := Option.some.inj ho
                  exact wpOpIn_of rfl rfl (wpW_val (r_move (.tmp 8) rfl (hP.out 8 (dm_out (by kernel_rfl)))) ⟨_, rfl, hS2, trivial, (fun h => by simp at h), rfl⟩)
                · obtain rfl := Option.some.inj ho
                  exact wpOpIn_of rfl rfl (wpW_val (r_move (.tmp 11) rfl (hP.out 11 (dm_out (by kernel_rfl)))) ⟨_, rfl, hS2, trivial, (fun h => by simp at h), rfl⟩)
                · obtain rfl := Option.some.inj ho
                  exact wpOpIn_of rfl rfl (wpW_val (r_move (.tmp 8) rfl (hP.out 8 (dm_out (by kernel_rfl)))) ⟨_, rfl, hS2, trivial, (fun h => by simp at h), rfl⟩)
                · obtain rfl := Option.some.inj ho
                  exact wpOpIn_of rfl rfl (wpW_val (r_move (.tmp 11) rfl (hP.out 11 (dm_out (by kernel_rfl)))) ⟨_, rfl, hS2, trivial, (fun h => by simp at h), rfl⟩)
                · obtain rfl := Option.some.inj ho
                  exact wpOpIn_of rfl rfl (wpW_val (r_idx (.tmp 39) (.tmp 40) _ _ rfl (hpre ⟨2, .data⟩ (by simp) rfl).2 (hpre ⟨3, .data⟩ (by simp) rfl).2 (idx_sl Try.underlying22 size24 B gn gn c hcg _)) ⟨_, rfl, hS2, trivial, (fun h => by simp at h), rfl⟩)
                · obtain rfl := Option.some.inj ho
                  have h12 := not_yet hcl 12 rfl ⟨5, .data⟩ (by simp) rfl hls
                  have h14 := not_yet hcl 14 rfl ⟨12, .data⟩ (by simp) rfl h12
                  have hc5 : w2.cell? ⟨B, c, none⟩ = some vc := by rw [hS2, h12, h14]; cases ls 11 <;> first | exact HV0.out | exact HV1.out
                  exact wpOpIn_of rfl rfl (wpW_val (r_load1 24 agg24 (.tmp 41) ⟨B, c, none⟩ rfl (hpre ⟨4, .data⟩ (by simp) rfl).2 hc5) ⟨_, rfl, hS2, trivial, (fun h => by simp at h), rfl⟩)
                · obtain rfl := Option.some.inj ho
                  exact wpOpIn_of rfl rfl (wpW_val (r_move (.tmp 10) rfl (hP.out 10 (dm_out (by kernel_rfl)))) ⟨_, rfl, hS2, trivial, (fun h => by simp at h), rfl⟩)
                · obtain rfl := Option.some.inj ho
                  exact wpOpIn_of rfl rfl (wpW_val (r_move (.tmp 11) rfl (hP.out 11 (dm_out (by kernel_rfl)))) ⟨_, rfl, hS2, trivial, (fun h => by simp at h), rfl⟩)
                · obtain rfl := Option.some.inj ho
                  exact wpOpIn_of rfl rfl (wpW_val (r_mul2 (.tmp 44) c (by omega) rfl (hpre ⟨7, .data⟩ (by simp) rfl).2) ⟨_, rfl, hS2, trivial, (fun h => by simp at h), rfl⟩)
                · obtain rfl := Option.some.inj ho
                  exact wpOpIn_of rfl rfl (wpW_val (r_idx (.tmp 43) (.tmp 45) _ _ rfl (hpre ⟨6, .data⟩ (by simp) rfl).2 (hpre ⟨8, .data⟩ (by simp) rfl).2 (HIX.out _)) ⟨_, rfl, hS2, trivial, (fun h => by simp at h), rfl⟩)
                · obtain rfl := Option.some.inj ho
                  have h11 := not_yet hcl 11 rfl ⟨10, .data⟩ (by simp) rfl hls
                  have h12 := not_yet hcl 12 rfl ⟨11, .data⟩ (by simp) rfl h11
                  have h14 := not_yet hcl 14 rfl ⟨12, .data⟩ (by simp) rfl h12
                  have hc5 : w2.cell? ⟨bu, ou + 2 * c, none⟩ = some (.int .i64 y) := by rw [hS2, h12, h14, h11]; exact HY.out
                  exact wpOpIn_of rfl rfl (wpW_val (r_load1 3 agg3 (.tmp 46) ⟨bu, ou + 2 * c, none⟩ rfl (hpre ⟨9, .data⟩ (by simp) rfl).2 hc5) ⟨_, rfl, hS2, trivial, (fun h => by simp at h), rfl⟩)
                · obtain rfl := Option.some.inj ho
                  have h12 := not_yet hcl 12 rfl ⟨11, .data⟩ (by simp) rfl hls
                  have h14 := not_yet hcl 14 rfl ⟨12, .data⟩ (by simp) rfl h12
                  rw [h12, h14, hls] at hS2
                  have hS3 : w2 = wr.drew := hS2
                  subst hS3
                  exact wpOpIn_of rfl rfl (wpW_val (r_bs24 (.tmp 47) y rfl (hpre ⟨10, .data⟩ (by simp) rfl).2) ⟨_, rfl, (by rw [show (fun j => if 11 = j then true else ls j) 14 = false from h14, show (fun j => if 11 = j then true else ls j) 12 = false from h12]; rfl), trivial, (fun h => by simp at h), rfl⟩)
                · obtain rfl := Option.some.inj ho
                  have h14 := not_yet hcl 14 rfl ⟨12, .data⟩ (by simp) rfl hls
                  have h11 : ls 11 = true := (hpre ⟨11, .data⟩ (by simp) rfl).1
                  rw [h14, hls, h11] at hS2
                  have hS3 : w2 = wr.drew.alloc (.cells #[.int .i64 y] 3) := hS2
                  subst hS3
                  exact wpOpIn_of rfl rfl (wpW_val (r_app (.tmp 42) (.tmp 48) 24 rfl (hpre ⟨5, .data⟩ (by simp) rfl).2 (hpre ⟨11, .data⟩ (by simp) rfl).2 HRUN.out) ⟨_, rfl, (by rw [show (fun j => if 12 = j then true else ls j) 14 = false from h14]; rfl), trivial, (fun h => by simp at h), rfl⟩)
                · obtain rfl := Option.some.inj ho
                  exact wpOpIn_of rfl rfl (wpW_val (r_idx (.tmp 37) (.tmp 38) _ _ rfl (hpre ⟨0, .data⟩ (by simp) rfl).2 (hpre ⟨1, .data⟩ (by simp) rfl).2 (idx_sl Try.underlying22 size24 B gn gn c hcg _)) ⟨_, rfl, hS2, trivial, (fun h => by simp at h), rfl⟩)
                · obtain rfl := Option.some.inj ho
                  have h12 : ls 12 = true := (hpre ⟨12, .data⟩ (by simp) rfl).1
                  rw [hls, h12] at hS2
                  have hS3 : w2 = w8 := hS2
                  subst hS3
                  exact wpOpIn_of rfl rfl (wpW_skip (r_store1 24 (.tmp 50) (.tmp 49) ⟨B, c, none⟩ _ _ rfl (hpre ⟨13, .data⟩ (by simp) rfl).2 (hpre ⟨12, .data⟩ (by simp) rfl).2 rfl HC8.out HF8.out (st24 _ _ A8 _ c8 HC8.out HF8.out)) ⟨undef, rfl, rfl, trivial, fun _ => rfl, rfl⟩)
              · intro ls a w2 hall hS2 hP hsl
                have h14 : ls 14 = true := hall 14 (by decide)
                rw [h14] at hS2
                obtain ⟨vs, hvs, hfr⟩ := hP.frame 54 rfl
                clear hsl hP hall h14 hvs HV0 HV1 HC8 HF8 HRUN HY
                subst hfr
                subst hS2
                simp only [List.range, List.range.loop, List.map_cons, List.map_nil, List.any_cons, List.any_nil, Nat.reduceAdd, Nat.reduceBEq, Nat.reduceLT, Option.some_beq_some, Bool.or_false, if_true, if_false, List.getD_cons_zero, List.getD_cons_succ, cond_true]
                generalize hw2 : w8.setCell ⟨B, c, none⟩ (.slice A8 (r + 1) c8) = w9 at *
                clear hw2
                obtain ⟨vs9, hI9⟩ := HI9.out
                have HI10 := Lib.hid hI9
                clear hI9
                go_wp2_with fail
                go_roundw
                case rel => exact ⟨c + 1, by go_num, by omega, _, HI10⟩
                case measure => simp [intOf]; omega
            · obtain rfl : c = gn := by omega
              have HI10 : Hid (∃ vs, ImgS w wr B c (fun d => colTo t d (r + 1)) vs) := Lib.hid ⟨vs, ⟨HI.out.below, HI.out.ge, HI.out.blk, fun d hd => by
                have := HI.out.row d hd
                rwa [if_pos hd] at this, HI.out.ap⟩⟩
              obtain ⟨vs9, hI9⟩ := HI10.out
              have HI11 := Lib.hid hI9
              clear hI9 HI10
              go_wp2_with fail
              go_roundw
              case rel => exact ⟨r + 1, by go_num, by omega, _, HI11⟩
              case measure => simp [intOf]; omega
        · obtain rfl : r = t.length := by omega
          have HT2 : Hid (Tab wr (.slice (some ⟨B, 0, none⟩) gn gn) (imgTo t gn)) := Lib.hid (HI.out.tab (fun c hc => fits_colTo HG.out hc (Nat.le_refl _)) (by omega))
          have HB2 := Lib.hid HI.out.below
          go_wp2_with fail
          go_ret2
          exact ⟨⟨_, ret_of2 rfl (by rw [HE.out]), by rw [HE.out]; exact HT2.out⟩, HB2.out⟩
  · have HE : Hid (imgE g t = ([], (check g t).1)) := Lib.hid (by unfold imgE; rw [if_pos h1])
    have hx : ((check g t).1 != 0) = true := by simpa using h1
    unfold CheckPost at HC
    unfold ImgPost
    clear HT h1 ht hc
    generalize imgE g t = X at *
    generalize (check g t).1 = e1 at *
    generalize (check g t).2 = e2 at *
    go_enter Try.func53, Try.ntmps53
    go_wp2_with (go_at_call 43; (refine HC.out.mono ?_); rintro e w' ⟨rfl, hb⟩; have HB := Lib.hid hb; clear hb)
    go_ret2
    exact ⟨⟨_, ret_of2 rfl (by rw [HE.out]), by rw [HE.out]; exact tab_nil⟩, HB.out⟩
end Go.Proofs
namespace Go.Proofs
open Go.RowKit Go.Shelf Go.Proofs.Ct Go.Maps
theorem std48_any (w : World) (v : Value) (g : Int) (t : Tb) (b : Int) (ht : Tab w v t) : Calls Try.prog 48 #[.int .i64 g, v, .int .i64 b] w (StdPost g t b w) := by
  by_cases h : (check g t).1 ≠ 0 ∨ b < 0 ∨ (t.length : Int) ≤ b
  · exact std48_bad w v g t b ht h
  · have h1 : (check g t).1 = 0 := by
      by_cases h2 : (check g t).1 = 0
      · exact h2
      · exact absurd (.inl h2) h
    obtain ⟨h0, hg, -⟩ := check_good h1
    have e : g = ((g.toNat : Nat) : Int) := by omega
    rw [e]
    exact std48_good w v g.toNat t b ht hg (by omega) (by omega)
theorem std49_any (w : World) (v : Value) (g : Int) (t : Tb) (b : Int) (ht : Tab w v t) : Calls Try.prog 49 #[.int .i64 g, v, .int .i64 b] w (StdPost g t b w) := by
  by_cases h : (check g t).1 ≠ 0 ∨ b < 0 ∨ (t.length : Int) ≤ b
  · exact std49_bad w v g t b ht h
  · have h1 : (check g t).1 = 0 := by
      by_cases h2 : (check g t).1 = 0
      · exact h2
      · exact absurd (.inl h2) h
    obtain ⟨h0, hg, -⟩ := check_good h1
    have e : g = ((g.toNat : Nat) : Int) := by omega
    have e2 : b = ((b.toNat : Nat) : Int) := by omega
    rw [e, e2]
    exact std49_good w v g.toNat t b.toNat ht hg (by omega)
theorem reps_short (g : Int) (t : Tb) : (repsE g t).1.length ≤ 1000000 := by
  unfold repsE
  by_cases h : (check g t).1 = 0
  · rw [if_neg (by omega)]
    by_cases h2 : std t 0 = some t
    · rw [if_pos h2]
      obtain ⟨-, hg, -⟩ := check_good h
      have h3 := (reps_length hg (std_iff h2)).1
      have := hg.n2
      dsimp only
      omega
    · rw [if_neg h2]; simp
  · rw [if_pos h]; simp
set_option maxRecDepth 100000 in
set_option maxHeartbeats 4000000 in
theorem tables18_walk (w : World) (vt vw : Value) (g b : Int) (t : Tb) (ws : List Int) (ht : Tab w vt t) (hw : IntsAt w vw ws) :
    Calls Try.prog 8 #[.int .i64 g, vt, .int .i64 b, vw] w fun e w' => e = .returned (.bool true) ∧ Below w.heap.size w w' := by
  obtain ⟨At, ct, rfl⟩ := Tab.form ht
  obtain ⟨Aw, cw, rfl, hw1, hw2, -⟩ := hw.open_
  have HTT : Hid (∀ W, Below w.heap.size w W → Tab W (.slice At t.length ct) t) := Lib.hid fun W h => kept_tab.below ht h
  have HWW : Hid (∀ W, Below w.heap.size w W → IntsAt W (.slice Aw ws.length cw) ws) := Lib.hid fun W h => kept_ints.below hw h
  have HRF := Lib.hid (Below.refl w.heap.size w)
  clear ht hw
  have H30 := Lib.hid (vast30_any w _ t (HTT.out _ HRF.out))
  have H43 : Hid (∀ W, Below w.heap.size w W → Calls Try.prog 43 #[.int .i64 g, .slice At t.length ct] W (CheckPost g t W)) := Lib.hid fun W h => check43_any W _ g t (HTT.out W h)
  have H44 : Hid (∀ W, Below w.heap.size w W → Calls Try.prog 44 #[.int .i64 g, .slice At t.length ct] W (CheckPostQ g t W)) := Lib.hid fun W h => check44_any W _ g t (HTT.out W h)
  have H45 : Hid (∀ W, Below w.heap.size w W → Calls Try.prog 45 #[.slice At t.length ct] W fun e w' => e = .returned (.bool (complete t)) ∧ Below W.heap.size W w') := Lib.hid fun W h => complete45_any W _ t (HTT.out W h)
  have H46 : Hid (∀ W, Below w.heap.size w W → Calls Try.prog 46 #[.slice At t.length ct] W fun e w' => e = .returned (.bool (complete t)) ∧ ∃ q, w' = W.drewN q) := Lib.hid fun W h => complete46_any W _ t (HTT.out W h)
  have H40 : Hid (∀ W, Below w.heap.size w W → Calls Try.prog 40 #[.int .i64 g, .slice At t.length ct, .int .i64 b, .slice Aw ws.length cw] W (TracePostE g t b ws W)) := Lib.hid fun W h => trace40_any W _ _ g t b ws (HTT.out W h) (HWW.out W h)
  have H47 : Hid (∀ W, Below w.heap.size w W → Calls Try.prog 47 #[.int .i64 g, .slice At t.length ct, .int .i64 b, .slice Aw ws.length cw] W (TracePostE g t b ws W)) := Lib.hid fun W h => trace47_any W _ _ g t b ws (HTT.out W h) (HWW.out W h)
  have H48 : Hid (∀ W, Below w.heap.size w W → Calls Try.prog 48 #[.int .i64 g, .slice At t.length ct, .int .i64 b] W (StdPost g t b W)) := Lib.hid fun W h => std48_any W _ g t b (HTT.out W h)
  have H49 : Hid (∀ W, Below w.heap.size w W → Calls Try.prog 49 #[.int .i64 g, .slice At t.length ct, .int .i64 b] W (StdPost g t b W)) := Lib.hid fun W h => std49_any W _ g t b (HTT.out W h)
  have H50 : Hid (∀ W, Below w.heap.size w W → Calls Try.prog 50 #[.int .i64 g, .slice At t.length ct] W (RepsPost g t W)) := Lib.hid fun W h => reps50_any W _ g t (HTT.out W h)
  have H51 : Hid (∀ W, Below w.heap.size w W → Calls Try.prog 51 #[.int .i64 g, .slice At t.length ct] W (RepsPost g t W)) := Lib.hid fun W h => reps51_any W _ g t (HTT.out W h)
  have H53 : Hid (∀ W, Below w.heap.size w W → Calls Try.prog 53 #[.int .i64 g, .slice At t.length ct] W (ImgPost g t W)) := Lib.hid fun W h => img53_any W _ g t (HTT.out W h)
  have H54 : Hid (∀ W, Below w.heap.size w W → Calls Try.prog 54 #[.int .i64 g, .slice At t.length ct] W (ImgPost g t W)) := Lib.hid fun W h => img54_any W _ g t (HTT.out W h)
  have H52 : Hid (∀ W v, Tab W v (repsE g t).1 → Calls Try.prog 52 #[v] W fun e w' => (∃ u, e = .returned u ∧ Tab w' u (repsE g t).1) ∧ Below W.heap.size W w') := Lib.hid fun W v h => plain52_any W v _ h (reps_short g t)
  have HSM : Hid (∀ (W : World) (a b : Value) (T : Tb), Tab W a T → Tab W b T → Calls Try.prog 34 #[a, b] W fun e w'' => e = .returned (.bool true) ∧ ∃ q, w'' = W.drewN q) := Lib.hid fun W a b T h1 h2 => (same18_any W a b _ _ h1 h2).mono fun e w'' ⟨h, h'⟩ => ⟨h.trans (ret_bool (decide_eq_true rfl)), h'⟩
  unfold CheckPost at H43
  unfold CheckPostQ at H44
  unfold TracePostE at H40 H47
  unfold StdPost at H48 H49
  unfold RepsPost at H50 H51
  unfold ImgPost at H53 H54
  clear HTT HWW
  generalize (check g t).1 = x1 at *
  generalize (check g t).2 = x2 at *
  generalize complete t = x3 at *
  generalize (traceE g t b ws).1 = x4 at *
  generalize (traceE g t b ws).2 = x5 at *
  generalize (stdE g t b).1 = T1 at *
  generalize (stdE g t b).2 = x6 at *
  generalize (repsE g t).1 = T2 at *
  generalize (repsE g t).2 = x7 at *
  generalize (imgE g t).1 = T3 at *
  generalize (imgE g t).2 = x8 at *
  have d1 : (x1 != x1) = false := by simp
  have d2 : (x2 != x2) = false := by simp
  have d3 : (x3 != x3) = false := by simp
  have d4 : (x4 != x4) = false := by simp
  have d5 : (x5 != x5) = false := by simp
  have d6 : (x6 != x6) = false := by simp
  have d7 : (x7 != x7) = false := by simp
  have d8 : (x8 == x8) = true := by simp
  by_cases hlen : 50 < ws.length
  · have hlen' : (50 : Int) < (ws.length : Int) := by omega
    go_enter Try.func8, Try.ntmps8
    go_wp2_with fail
    refine H30.out.mono ?_
    rintro e w2 ⟨⟨y, rfl⟩, rfl⟩
    cases y with
    | true =>
      go_wp2_with (go_at_call 31; (refine (awake31_any _).mono ?_); rintro e w3 ⟨rfl, hb⟩
                   have HB := Lib.hid hb
                   clear hb)
      go_ret
      exact ⟨rfl, HB.out⟩
    | false =>
      go_wp2_with (go_at_call 31; (refine (awake31_any _).mono ?_); rintro e w3 ⟨rfl, hb⟩
                   have HB := Lib.hid hb
                   clear hb)
      go_ret
      exact ⟨rfl, HB.out⟩
  · have hlen' : (ws.length : Int) ≤ 50 := by omega
    go_enter Try.func8, Try.ntmps8
    go_wp2_with fail
    refine H30.out.mono ?_
    rintro e w2 ⟨⟨y, rfl⟩, rfl⟩
    cases y with
    | true =>
      go_wp2_with (go_at_call 31; (refine (awake31_any _).mono ?_); rintro e w3 ⟨rfl, hb⟩
                   have HB := Lib.hid hb
                   clear hb)
      go_ret
      exact ⟨rfl, HB.out⟩
    | false =>
      go_wp2_with (first
        | (go_at_call 43; (refine (H43.out _ HRF.out).mono ?_); rintro e w3 ⟨rfl, hb⟩
           have HB3 := Lib.hid hb
           clear hb)
        | (go_at_call 44; (refine (H44.out _ HB3.out).mono ?_); rintro e w4 ⟨rfl, q, rfl⟩
           have HB4 := Lib.hid (below_drewN HB3.out q))
        | (go_at_call 45; (refine (H45.out _ HB4.out).mono ?_); rintro e w5 ⟨rfl, hb⟩
           have HB5 := Lib.hid (HB4.out.trans (hb.mono HB4.out.size))
           clear hb)
        | (go_at_call 46; (refine (H46.out _ HB5.out).mono ?_); rintro e w6 ⟨rfl, q, rfl⟩
           have HB6 := Lib.hid (below_drewN HB5.out q))
        | (go_at_call 40; (refine (H40.out _ HB6.out).mono ?_); rintro e w7 ⟨rfl, hb⟩
           have HB7 := Lib.hid (HB6.out.trans (hb.mono HB6.out.size))
           clear hb)
        | (go_at_call 47; (refine (H47.out _ HB7.out).mono ?_); rintro e w8 ⟨rfl, hb⟩
           have HB8 := Lib.hid (HB7.out.trans (hb.mono HB7.out.size))
           clear hb)
        | (go_at_call 48; (refine (H48.out _ HB8.out).mono ?_); rintro e w9 ⟨⟨u, rfl, hx⟩, hb⟩
           have HB9 := Lib.hid (HB8.out.trans (hb.mono HB8.out.size))
           have HX9 := Lib.hid hx
           clear hb hx)
        | (go_at_call 49; (refine (H49.out _ HB9.out).mono ?_); rintro e w10 ⟨⟨u2, rfl, hx⟩, hb⟩
           have HB10 := Lib.hid (HB9.out.trans (hb.mono HB9.out.size))
           have HX9' := Lib.hid (kept_tab.below HX9.out hb)
           have HX10 := Lib.hid hx
           clear hb hx)
        | (go_at_call 34; (refine (HSM.out _ _ _ _ HX9'.out HX10.out).mono ?_); rintro e w11 ⟨rfl, q, rfl⟩
           have HB11 := Lib.hid (below_drewN HB10.out q)
           clear HX9 HX9' HX10)
        | (go_at_call 50; (refine (H50.out _ HB11.out).mono ?_); rintro e w12 ⟨⟨u3, rfl, hx⟩, hb⟩
           have HB12 := Lib.hid (HB11.out.trans (hb.mono HB11.out.size))
           have HX12 := Lib.hid hx.at_
           clear hb hx)
        | (go_at_call 51; (refine (H51.out _ HB12.out).mono ?_); rintro e w13 ⟨⟨u4, rfl, hx⟩, hb⟩
           have HB13 := Lib.hid (HB12.out.trans (hb.mono HB12.out.size))
           have HX12' := Lib.hid (kept_tab.below HX12.out hb)
           have HX13 := Lib.hid hx.at_
           clear hb hx)
        | (go_at_call 52; (refine (H52.out _ _ HX12'.out).mono ?_); rintro e w14 ⟨⟨u5, rfl, hx⟩, hb⟩
           have HB14 := Lib.hid (HB13.out.trans (hb.mono HB13.out.size))
           have HX14 := Lib.hid hx
           have HX13' := Lib.hid (kept_tab.below HX13.out hb)
           clear hb hx HX12')
        | (go_at_call 52; (refine (H52.out _ _ HX13'.out).mono ?_); rintro e w15 ⟨⟨u6, rfl, hx⟩, hb⟩
           have HB15 := Lib.hid (HB14.out.trans (hb.mono HB14.out.size))
           have HX15 := Lib.hid hx
           have HX14' := Lib.hid (kept_tab.below HX14.out hb)
           clear hb hx)
        | (go_at_call 34; (refine (HSM.out _ _ _ _ HX14'.out HX15.out).mono ?_); rintro e w16 ⟨rfl, q, rfl⟩
           have HB16 := Lib.hid (below_drewN HB15.out q)
           clear HX14' HX15)
        | (go_at_call 53; (refine (H53.out _ HB16.out).mono ?_); rintro e w17 ⟨⟨u7, rfl, hx⟩, hb⟩
           have HB17 := Lib.hid (HB16.out.trans (hb.mono HB16.out.size))
           have HX17 := Lib.hid hx
           clear hb hx)
        | (go_at_call 54; (refine (H54.out _ HB17.out).mono ?_); rintro e w18 ⟨⟨u8, rfl, hx⟩, hb⟩
           have HB18 := Lib.hid (HB17.out.trans (hb.mono HB17.out.size))
           have HX17' := Lib.hid (kept_tab.below HX17.out hb)
           have HX18 := Lib.hid hx
           clear hb hx)
        | (go_at_call 34; (refine (HSM.out _ _ _ _ HX17'.out HX18.out).mono ?_); rintro e w19 ⟨rfl, q, rfl⟩
           have HB19 := Lib.hid (below_drewN HB18.out q))
        | (go_at_call 31; (refine (awake31_any _).mono ?_); rintro e w20 ⟨rfl, hb⟩
           have HB20 := Lib.hid (HB19.out.trans (hb.mono HB19.out.size))
           clear hb))
      go_ret
      exact ⟨rfl, HB20.out⟩
end Go.Proofs
namespace Go.Proofs
open Go.RowKit Go.ChangeShapes Go.WideShapes Go.ChangeAt Go.Deep
section
variable {H : Type} {enc : TypeId × Value → H} {W : World}
theorem spot_none {a : Addr} {v : Value} (h : W.cell? (a.add 0) = some v) : a = ⟨a.block, a.off, none⟩ := by
  obtain ⟨b, o, s⟩ := a
  cases s with
  | none => rfl
  | some q =>
    exfalso
    have e : ({ block := b, off := o, spot := some q } : Addr).add 0 = { block := b, off := o, spot := some q } := by unfold Addr.add; rw [if_pos rfl]
    rw [e] at h
    unfold World.cell? at h
    simp only [Option.isSome_some, if_true] at h
    split at h <;> cases h
theorem wf_fits {x : Int} (h : (Lit.int .i64 x).wf = true) : -9223372036854775808 ≤ x ∧ x ≤ 9223372036854775807 := by
  simpa [Lit.wf, IntKind.min, IntKind.max, IntKind.signed, IntKind.bits] using h
theorem lat_of_trod {α : Type} {R : World → Value → α → Prop} {d : α} {t e : TypeId} {base fuel : Nat} {spare : Nat → Bool} {held : Bool} {v : Value} {x : DataW H × List MemPlace} (ht : Try.prog.underlying t = some (.slice e)) (hc : Try.prog.cellsOf e = 1)
    (hR : ∀ n u y, DataW.trod enc Try.prog W base spare held n e [u] = some y → ∃ z, R W u z) (h : DataW.trod enc Try.prog W base spare held fuel t [v] = some x) : ∃ xs, LAt R d W v xs := by
  rcases open_slice1 ht hc h with ⟨hv, -⟩ | ⟨a, len, cap, m, n, V, D, Pl, hv, -, hl, hm, hmm, -, hx⟩
  · obtain rfl : v = .slice none 0 0 := by simpa using hv
    exact ⟨[], [], ⟨none, 0, 0, rfl, rfl, Nat.le_refl _, by simp [maxLen], fun h => absurd h (by simp)⟩, rfl, fun i hi => absurd hi (by simp)⟩
  · obtain rfl : v = .slice (some a) len cap := by simpa using hv
    have hlm : len ≤ m := by rw [hmm]; split <;> omega
    have hz : ∀ i, i < len → ∃ z, R W (V i) z := fun i hi => hR n (V i) _ (hx i (by omega)).2
    have hf : ∃ f : Nat → α, ∀ i, i < len → R W (V i) (f i) := by
      have hz' : ∀ i, ∃ z, i < len → R W (V i) z := fun i => by
        by_cases hi : i < len
        · obtain ⟨z, hz⟩ := hz i hi; exact ⟨z, fun _ => hz⟩
        · exact ⟨d, fun h => absurd h hi⟩
      exact ⟨fun i => Classical.choose (hz' i), fun i => Classical.choose_spec (hz' i)⟩
    obtain ⟨f, hf⟩ := hf
    refine ⟨(List.range len).map f, (List.range len).map V, ⟨_, len, cap, rfl, by simp, hl, hm, fun h0 => ?_⟩, by simp, fun i hi => ?_⟩
    · have hsp := spot_none (hx 0 (by omega)).1
      refine ⟨a.block, a.off, by rw [← hsp], fun j u hu => ?_⟩
      have hj : j < len := by have := (List.getElem?_eq_some_iff.1 hu).1; simpa using this
      have := (hx j (by omega)).1
      rw [hsp, Addr.add_lit] at this
      rw [this, ← hu]
      simp [List.getElem?_range hj]
    · have hi' : i < len := by simpa using hi
      refine ⟨V i, by simp [List.getElem?_range hi'], ?_⟩
      have : ((List.range len).map f).getD i d = f i := by simp [List.getD_eq_getElem?_getD, List.getElem?_range hi']
      rw [this]
      exact hf i hi'
theorem intsT_of_trod {t : TypeId} (ht : Try.prog.underlying t = some (.slice 3)) {base fuel : Nat} {spare : Nat → Bool} {held : Bool} {v : Value} {x : DataW H × List MemPlace} (h : DataW.trod enc Try.prog W base spare held fuel t [v] = some x) : ∃ xs, IntsAt W v xs := by
  obtain ⟨xs, vs, hS, hl, he⟩ := lat_of_trod (R := fun _ u z => u = .int .i64 z ∧ (Lit.int .i64 z).wf = true) (d := 0) ht (by kernel_rfl) (fun n u y hy => by
    obtain ⟨m, hu, -, hw⟩ := DataW.trod_int Try.underlying3 hy
    exact ⟨m, by simpa using hu, hw⟩) h
  have hvs : vs = ints xs := by
    apply List.ext_getElem (by simpa [ints] using hl)
    intro i h1 h2
    obtain ⟨u, hu, rfl, -⟩ := he i (by omega)
    have hi : i < xs.length := by omega
    rw [List.getElem?_eq_getElem h1] at hu
    rw [Option.some.inj hu]
    simp [ints, List.getD_eq_getElem?_getD, hi]
  refine ⟨xs, hvs ▸ hS, fun z hz => ?_⟩
  obtain ⟨i, hi, rfl⟩ := List.getElem_of_mem hz
  obtain ⟨u, -, -, hw⟩ := he i hi
  have e : xs.getD i 0 = xs[i] := by simp [List.getD_eq_getElem?_getD, hi]
  rw [e] at hw
  exact wf_fits hw
theorem ints_of_trod {base fuel : Nat} {spare : Nat → Bool} {held : Bool} {v : Value} {x : DataW H × List MemPlace} (h : DataW.trod enc Try.prog W base spare held fuel 24 [v] = some x) : ∃ xs, IntsAt W v xs := intsT_of_trod Try.underlying24 h
theorem word_of_trod {base fuel : Nat} {spare : Nat → Bool} {held : Bool} {v : Value} {x : DataW H × List MemPlace} (h : DataW.trod enc Try.prog W base spare held fuel 25 [v] = some x) : ∃ xs, IntsAt W v xs := intsT_of_trod Try.underlying25 h
theorem tab_of_trod {base fuel : Nat} {spare : Nat → Bool} {held : Bool} {v : Value} {x : DataW H × List MemPlace} (h : DataW.trod enc Try.prog W base spare held fuel 23 [v] = some x) : ∃ L, Tab W v L :=
  lat_of_trod Try.underlying23 (by kernel_rfl) (fun _ _ _ hy => ints_of_trod hy) h
end
end Go.Proofs
