/- The reference's Generators at a standard table; The reference's rewrite of a system; The reference's Rewrite; rewrite.Present: what it answers; structs of type 40; the relators under way. -/
import Derived.Test.YtcfighimnkfmeaaZ14
import Derived.Test.YtcfighimnkfmeaaZ13
namespace Go.Proofs
open Go.RowKit Go.Shelf Go.Proofs.Ct Go.Maps

set_option maxRecDepth 100000 in
set_option maxHeartbeats 2000000 in
theorem gens19_good (w : World) (v : Value) (g : Nat) (t : Tb) (ht : Tab w v t) (hg : TGood g t) (hstd : std t 0 = some t) : Calls Try.prog 19 #[.int .i64 (g : Int), v] w (GensPost g t w) := by
  have hck := check_of_good hg
  have hre : repsE g t = (reps t, 0) := by unfold repsE; rw [hck, if_neg (by simp), if_pos hstd]
  have HC := Lib.hid (of69_good w v g t ht hg hstd)
  have HE1 : Hid (1000 < (pairs t (reps t) g).length → gensE g t = ([], 5)) := Lib.hid fun h => by unfold gensE; rw [hre, if_neg (by simp), if_pos (by simpa using h)]
  have HE2 : Hid (¬ 1000 < (pairs t (reps t) g).length → gensE g t = (gensR t (reps t) g t.length 0, 0)) := Lib.hid fun h => by unfold gensE; rw [hre, if_neg (by simp), if_neg (by simpa using h), gensR_all]; rfl
  have HSTD := Lib.hid (std_iff hstd)
  have HG := Lib.hid hg
  have HRL := Lib.hid (reps_length hg (std_iff hstd))
  have hmild : ∀ j, ∀ x ∈ (reps t).getD j [], Mild x := fun j x hx => by
    have := reps_letter hg j x hx
    have := hg.g16
    unfold Mild
    omega
  have HML := Lib.hid hmild
  have hwl : ∀ i, ((reps t).getD i []).length ≤ 20000 := fun i => by
    rcases Nat.lt_or_ge i t.length with hi | hi
    · have := HRL.out.2 i hi; have := hg.n2; omega
    · rw [List.getD_eq_getElem?_getD, List.getElem?_eq_none (by rw [HRL.out.1]; exact hi)]; simp
  have HWL := Lib.hid hwl
  have hg16 := hg.g16
  have hn2 := hg.n2
  have hg0' : (0 : Int) ≤ (g : Int) := Int.natCast_nonneg _
  have hg16' : (g : Int) ≤ 16 := by omega
  have hn0 : (0 : Int) ≤ (t.length : Int) := Int.natCast_nonneg _
  obtain ⟨A, c, rfl⟩ := Tab.form ht
  clear ht hstd hck hre hg hmild hwl
  generalize reps t = R at *
  by_cases hbig : 1000 < (pairs t R g).length
  · have hbI : (1000 : Int) < ((pairs t R g).length : Int) := by omega
    have HZ := Lib.hid (HE1.out hbig)
    clear hbig
    go_enter Try.func19, Try.ntmps19
    go_wp2_with (first
      | (go_at_call 69; (refine HC.out.mono ?_); rintro e w1 ⟨⟨vr, vn, rfl, hS⟩, hb⟩
         obtain ⟨Ar, cr, rfl⟩ := Tab.form hS.reps
         obtain ⟨An, cn, rfl⟩ := Tab.form hS.nums
         have HN1 := Lib.hid (heap_alloc_new w1 (.cells zero99 99))
         have HB1 := Lib.hid hb
         have HX := Lib.hid (box_cells5 (setRow_heap (w1.alloc (.cells zero99 99)) w1.heap.size zero99 #[.int .i64 (g : Int), .slice A t.length c, .slice Ar R.length cr, .slice An (numsTo t R g t.length).length cn, .int .i64 ((pairs t R g).length : Int)] 99 (0, 0) HN1.out))
         clear hb hS)
      | ((with_reducible refine wpList_sel 6 ?_); refine wpList_val rfl (r_alloc99 rfl) ?_; refine wpList_skip rfl (r_store99 (.tmp 6) (.tmp 15) rfl w1.heap.size zero99 #[.int .i64 (g : Int), .slice A t.length c, .slice Ar R.length cr, .slice An (numsTo t R g t.length).length cn, .int .i64 ((pairs t R g).length : Int)] rfl rfl HN1.out rfl rfl (one99 _ _ _ _ _ _ _ _ _ _ _)) ?_
         have hx := HX.out.2.2.2.2))
    go_ret2
    exact ⟨⟨.slice none 0 0, ret_of2 rfl (by rw [HZ.out]), by rw [HZ.out]; exact TabB.nil⟩, below_boxed HB1.out _ _⟩
  · have hbI : ¬ (1000 : Int) < ((pairs t R g).length : Int) := by omega
    have HZ := Lib.hid (HE2.out hbig)
    clear hbig
    go_enter Try.func19, Try.ntmps19
    go_wp2_with (first
      | (go_at_call 69; (refine HC.out.mono ?_); rintro e w1 ⟨⟨vr, vn, rfl, hS⟩, hb⟩
         obtain ⟨Ar, cr, rfl⟩ := Tab.form hS.reps
         obtain ⟨An, cn, rfl⟩ := Tab.form hS.nums
         have HN1 := Lib.hid (heap_alloc_new w1 (.cells zero99 99))
         have HB1 := Lib.hid hb
         have HBX := Lib.hid (setRow_heap (w1.alloc (.cells zero99 99)) w1.heap.size zero99 #[.int .i64 (g : Int), .slice A t.length c, .slice Ar R.length cr, .slice An (numsTo t R g t.length).length cn, .int .i64 ((pairs t R g).length : Int)] 99 (0, 0) HN1.out)
         have HX := Lib.hid (box_cells5 HBX.out)
         have HS := Lib.hid hS
         clear hb hS)
      | ((with_reducible refine wpList_sel 6 ?_); refine wpList_val rfl (r_alloc99 rfl) ?_; refine wpList_skip rfl (r_store99 (.tmp 6) (.tmp 15) rfl w1.heap.size zero99 #[.int .i64 (g : Int), .slice A t.length c, .slice Ar R.length cr, .slice An (numsTo t R g t.length).length cn, .int .i64 ((pairs t R g).length : Int)] rfl rfl HN1.out rfl rfl (one99 _ _ _ _ _ _ _ _ _ _ _)) ?_
         have hx := HX.out.2.2.2.2))
    clear hx
    have hbx : Below w1.heap.size w1 ((w1.alloc (.cells zero99 99)).setRow w1.heap.size #[.int .i64 (g : Int), .slice A t.length c, .slice Ar R.length cr, .slice An (numsTo t R g t.length).length cn, .int .i64 ((pairs t R g).length : Int)]) := below_boxed (Below.refl _ _) _ _
    have HW12 := Lib.hid hbx
    have HS2 := Lib.hid (HS.out.below hbx)
    clear hbx
    generalize hw2 : (w1.alloc (.cells zero99 99)).setRow w1.heap.size #[.int .i64 (g : Int), .slice A t.length c, .slice Ar R.length cr, .slice An (numsTo t R g t.length).length cn, .int .i64 ((pairs t R g).length : Int)] = w2 at *
    clear hw2 HX
    have HOT := Lib.hid (OutSt.nil 25 (Below.refl w2.heap.size w2))
    go_loopw [8, 9] (fun so i wr => ∃ k : Nat, i = .int .i64 k ∧ k ≤ t.length ∧ ∃ A c, so = .slice A (cntL t R g k 0) c ∧ Hid (∃ F, OutSt 25 F w2 wr so (gensR t R g k 0))) (fun _ i _ => t.length - (intOf i).toNat)
    case atStart => exact ⟨0, rfl, by omega, none, 0, rfl, Lib.hid ⟨_, HOT.out⟩⟩
    case round =>
      clear HOT
      obtain ⟨k, rfl, hk, A9, c9, rfl, HST⟩ := hrel
      have hk0 : (0 : Int) ≤ (k : Int) := Int.natCast_nonneg _
      by_cases hlt : k < t.length
      · have hlt' : (k : Int) < (t.length : Int) := by omega
        go_wp2_with fail
        go_loopw [8, 10] (fun so i wr => ∃ j : Nat, i = .int .i64 ((j : Int) + 1) ∧ j ≤ g ∧ ∃ A c, so = .slice A (cntL t R g k j) c ∧ Hid (∃ F, OutSt 25 F w2 wr so (gensR t R g k j))) (fun _ i _ => g + 1 - (intOf i).toNat)
        case atStart => exact ⟨0, rfl, by omega, A9, c9, rfl, HST⟩
        case round =>
          clear HST
          obtain ⟨j, rfl, hj, A9, c9, rfl, HST⟩ := hrel
          have hj0 : (0 : Int) ≤ (j : Int) := Int.natCast_nonneg _
          by_cases hjl : j < g
          · have hjl3 : (j : Int) + 1 ≤ (g : Int) := by omega
            have hjl4 : (j : Int) < (g : Int) := by omega
            obtain ⟨F, hO⟩ := HST.out
            have hB := hO.below
            obtain ⟨p0, p1, p2, p3, p4⟩ := box_cells5 ((hB.block _ (Array.getElem?_eq_some_iff.1 HBX.out).1).trans HBX.out)
            obtain ⟨An', cn', en, n1, n2, n3⟩ := HS2.out.nums.open_
            obtain ⟨rfl, -, rfl⟩ := Value.slice.inj en
            obtain ⟨bn, on, rfl, n4⟩ := n3 (by rw [length_numsTo]; omega)
            obtain ⟨un, hun, hIn⟩ := n4 k (by rw [length_numsTo]; exact hlt)
            rw [numsTo_get hlt] at hIn
            obtain ⟨Au, cu, rfl, u1, u2, u3⟩ := hIn.open_
            obtain ⟨bu, ou, rfl, u4⟩ := u3 (by rw [length_rowL]; omega)
            have hcu := u4 j (by rw [length_rowL]; exact hjl)
            rw [rowL_get hjl hjl] at hcu
            have hun' := (hB.cell (p := ⟨bn, on + k, none⟩) (World.block_lt_of_cell? w2 _ hun)).trans hun
            have hcu' := (hB.cell (p := ⟨bu, ou + j, none⟩) (World.block_lt_of_cell? w2 _ hcu)).trans hcu
            have hln : (numsTo t R g t.length).length = t.length := length_numsTo _ _ _ _
            have hlr : (rowL t R g k g).length = g := length_rowL _ _ _ _ _
            have hkn : (k : Int) < ((numsTo t R g t.length).length : Int) := by omega
            have hjr : (j : Int) < ((rowL t R g k g).length : Int) := by omega
            obtain ⟨hda, hdl⟩ := dest_at HG.out HSTD.out hlt hjl
            have HWD : Hid (Calls Try.prog 73 #[.agg #[.int .i64 (g : Int), .slice A t.length c, .slice Ar R.length cr, .slice (some ⟨bn, on, none⟩) (numsTo t R g t.length).length cn, .int .i64 ((pairs t R g).length : Int)], .int .i64 (k : Int), .int .i64 ((j : Int) + 1)] wr (RedPost ((R.getD k [] ++ [(j : Int) + 1]) ++ red (inv (R.getD (dest t k j) []))) wr)) :=
              Lib.hid (word73_any wr _ _ _ _ _ _ _ t R k j (kept_tab _ _ _ _ hB.block HS2.out.tab) (kept_tab _ _ _ _ hB.block HS2.out.reps) HRL.out.1 hlt ⟨hda, hdl⟩ (by rw [HG.out.len k hlt]; omega) HWL.out HML.out (by omega))
            have HSC : Hid (schr t R (k, j) = red ((R.getD k [] ++ [(j : Int) + 1]) ++ red (inv (R.getD (dest t k j) [])))) := Lib.hid rfl
            have HMS : Hid (∀ z ∈ schr t R (k, j), Mild z) := Lib.hid fun z hz => by
              rw [HSC.out] at hz
              rcases List.mem_append.1 (red_mem hz) with h | h
              · rcases List.mem_append.1 h with h | h
                · exact HML.out k z h
                · have : z = (j : Int) + 1 := by simpa using h
                  rw [this]; unfold Mild; omega
              · exact mild_inv (HML.out (dest t k j)) z (red_mem h)
            have hnp := number_pos t R g k j
            have HO := Lib.hid hO
            have HGT := Lib.hid (@gensR_tree t R g k j)
            have HGN := Lib.hid (@gensR_new t R g k j)
            have HCT := Lib.hid (@cntL_tree t R g k j)
            have HCN := Lib.hid (@cntL_new t R g k j)
            have HLG := Lib.hid (length_gensR t R g k j)
            have hcl : cntL t R g k j ≤ 1000000 := by
              have h1 := cntL_bd t R g k j
              have h3 : k * g ≤ 20000 * 16 := Nat.mul_le_mul (by omega) hg16
              omega
            clear hO hB en n3 n4 hun hIn u3 u4 hcu hda hdl hln hlr HST
            generalize number t R g k j = N at *
            generalize (numsTo t R g t.length).length = nl at *
            generalize (rowL t R g k g).length = rl at *
            generalize cntL t R g k j = m at *
            generalize (pairs t R g).length = pl at *
            cases hnt : nt t R k j with
            | false =>
              rw [hnt] at hnp HGT HCT
              have hN : ¬ (0 < N) := by simpa using hnp
              have HG2 := Lib.hid (HGT.out rfl)
              have HC2 := Lib.hid (HCT.out rfl)
              clear hnt hnp HGT HCT HGN HCN
              go_wp2_with fail
              go_roundw
              case rel => exact ⟨j + 1, by go_num, by omega, A9, c9, by rw [HC2.out], Lib.hid ⟨F, by rw [HG2.out]; exact HO.out⟩⟩
              case measure => simp [intOf]; omega
            | true =>
              rw [hnt] at hnp HGN HCN
              have hN : 0 < N := by simpa using hnp
              have HG2 := Lib.hid (HGN.out rfl)
              have HC2 := Lib.hid (HCN.out rfl).1
              clear hnt hnp HGT HCT HGN HCN
              go_wp2_with (first
                | (go_at_call 73; (refine HWD.out.mono ?_); rintro e w10 ⟨A10, c10, rfl, ho10, hb10⟩
                   rw [← HSC.out] at ho10 ⊢
                   obtain ⟨A11, c11, w11, hr11, hS11, hg11⟩ := (HO.out.with_row hb10 ho10).done' (by decide) Try.underlying31 info25p (Mild.fits HMS.out) (by rw [HLG.out]; exact hcl)
                   rw [HLG.out] at hr11 hS11
                   rw [← HG2.out] at hS11
                   have HR11 := Lib.hid hr11
                   have HS11 := Lib.hid hS11
                   clear ho10 hb10 hr11 hS11 hg11)
                | ((with_reducible refine wpList_sel 50 ?_); refine wpList_val rfl (r_app (.tmp 44) (.tmp 49) 31 rfl rfl rfl HR11.out) ?_))
              go_roundw
              case rel => exact ⟨j + 1, by go_num, by omega, A11, c11, by rw [HC2.out], Lib.hid ⟨_, HS11.out⟩⟩
              case measure => simp [intOf]; omega
          · obtain rfl : j = g := by omega
            have HK2 := Lib.hid (gensR_row t R j k)
            have HK3 := Lib.hid (cntL_row t R j k)
            rename World => wy
            go_wp2_with fail
            go_roundw
            case rel => exact ⟨k + 1, by go_num, by omega, A9, c9, by rw [HK3.out], by rw [← HK2.out]; exact HST⟩
            case measure => simp [intOf]; omega
      · obtain rfl : k = t.length := by omega
        rename World => wz
        obtain ⟨F, hO⟩ := HST.out
        have HT2 := Lib.hid hO.tabB
        have HSZ := Lib.hid HW12.out.size
        have HB3 : Hid (Below w.heap.size w wz) := Lib.hid ((HB1.out.trans (HW12.out.mono HB1.out.size)).trans (hO.below.mono (Nat.le_trans HB1.out.size HW12.out.size)))
        clear hO HST
        go_wp2_with fail
        go_ret2
        exact ⟨⟨_, ret_of2 rfl (by rw [HZ.out]), by rw [HZ.out]; exact fun w' hw' => HT2.out w' fun k h1 h2 => hw' k (by have := HB1.out.size; have := HSZ.out; omega) h2⟩, HB3.out⟩
end Go.Proofs
namespace Go.Proofs
open Go.RowKit Go.Shelf Go.Proofs.Ct Go.Maps

theorem Tab.at2 {w : World} {A : Option Addr} {n c : Nat} {t : Tb} (h : Tab w (.slice A n c) t) {r k : Nat} (hr : r < t.length) (hk : k < (t.row r).length) : ∃ b o, A = some ⟨b, o, none⟩ ∧ n = t.length ∧ ∃ bu ou cu, w.cell? ⟨b, o + r, none⟩ = some (.slice (some ⟨bu, ou, none⟩) (t.row r).length cu) ∧ w.cell? ⟨bu, ou + k, none⟩ = some (.int .i64 (t.at r k)) := by
  obtain ⟨A', c', e, h1, h2, h3⟩ := h.open_
  obtain ⟨rfl, rfl, rfl⟩ := Value.slice.inj e
  obtain ⟨b, o, rfl, h4⟩ := h3 (by omega)
  obtain ⟨u, hu, hI⟩ := h4 r hr
  have hI2 : IntsAt w u (t.row r) := hI
  obtain ⟨Au, cu, rfl, u1, u2, u3⟩ := hI2.open_
  obtain ⟨bu, ou, rfl, u4⟩ := u3 (by omega)
  exact ⟨b, o, rfl, rfl, bu, ou, cu, hu, u4 k hk⟩

/-- the list under way -/
def ListSt (w0 wr : World) (so : Value) (X : List Int) : Prop := OwnI w0.heap.size wr so X ∧ Below w0.heap.size w0 wr
theorem ListSt.push {w0 wr : World} {A : Option Addr} {n c : Nat} {X : List Int} (h : ListSt w0 wr (.slice A n c) X) (hn : n = X.length) (z : Int) (hX : X.length ≤ 1000000) :
    ∃ A' c' w', (Builtin.append_ #[25, 25] 25 #[.slice A n c, .slice (some ⟨wr.heap.size, 0, none⟩) 1 1]).run Try.prog (wr.alloc (.cells #[.int .i64 z] 3)) = .ok (.slice A' (n + 1) c') w' ∧ ListSt w0 w' (.slice A' (n + 1) c') (X ++ [z]) := by
  subst hn
  obtain ⟨A', c', w', hr, ho, hg, -⟩ := push_int 25 25 Try.underlying25 wr w0.heap.size _ X h.1 z (by omega) h.2.size
  exact ⟨A', c', w', hr, ho, h.2.grown hg h.2.size (fun k hk => (owns_block h.1 k hk).1)⟩
theorem stepW_pos (t : Tb) (r j : Nat) : stepW t r ((j : Int) + 1) = (t.at r (2 * j)).toNat := by
  unfold stepW
  rw [if_pos (by omega), show (2 * ((j : Int) + 1) - 2).toNat = 2 * j by omega]
theorem stepW_neg (t : Tb) (r j : Nat) : stepW t r (-((j : Int) + 1)) = (t.at r (2 * j + 1)).toNat := by
  unfold stepW
  rw [if_neg (by omega), show (-2 * (-((j : Int) + 1)) - 1).toNat = 2 * j + 1 by omega]
theorem letN_pos (t : Tb) (R : List W) (g r j : Nat) : letN t R g r ((j : Int) + 1) = number t R g r j := by
  unfold letN
  rw [if_pos (by omega), show ((j : Int) + 1 - 1).toNat = j by omega]
theorem letN_neg (t : Tb) (R : List W) (g r j : Nat) : letN t R g r (-((j : Int) + 1)) = -number t R g (stepW t r (-((j : Int) + 1))) j := by
  unfold letN
  rw [if_neg (by omega), show (-(-((j : Int) + 1)) - 1).toNat = j by omega]

set_option maxRecDepth 100000 in
set_option maxHeartbeats 4000000 in
theorem rewrite77_any (w : World) (vt vr vn v : Value) (m : Int) (g : Nat) (t : Tb) (R : List W) (r : Nat) (ws : List Int) (hS : SysR w vt vr vn t R (numsTo t R g t.length)) (hg : TGood g t) (hs : Std t) (hr : r < t.length)
    (hw : IntsAt w v ws) (hl : LetsOk g ws) (hlen : ws.length ≤ 100000) :
    Calls Try.prog 77 #[.agg #[.int .i64 (g : Int), vt, vr, vn, .int .i64 m], .int .i64 (r : Int), v] w (RwPost w (rwW t R g r ws)) := by
  obtain ⟨At, ct, rfl⟩ := Tab.form hS.tab
  obtain ⟨Ar, cr, rfl⟩ := Tab.form hS.reps
  obtain ⟨An, cn, rfl⟩ := Tab.form hS.nums
  obtain ⟨Aw, cw, rfl, hw1, hw2, hw3⟩ := hw.open_
  have hnew := heap_alloc_new w (.cells #[.int .i64 (g : Int), .slice At t.length ct, .slice Ar R.length cr, .slice An (numsTo t R g t.length).length cn, .int .i64 m] 99)
  have hbel : Below w.heap.size w (w.alloc (.cells #[.int .i64 (g : Int), .slice At t.length ct, .slice Ar R.length cr, .slice An (numsTo t R g t.length).length cn, .int .i64 m] 99)) := (Below.refl _ _).alloc (Nat.le_refl _) _
  have hsz : (w.alloc (.cells #[.int .i64 (g : Int), .slice At t.length ct, .slice Ar R.length cr, .slice An (numsTo t R g t.length).length cn, .int .i64 m] 99)).heap.size = w.heap.size + 1 := by simp
  have HNEW := Lib.hid hnew
  have HSY := Lib.hid hS
  have HG := Lib.hid hg
  have HSD := Lib.hid hs
  have HW3 := Lib.hid hw3
  have HL := Lib.hid hl
  have HSZ := Lib.hid hsz
  have HBE := Lib.hid hbel
  have HR := Lib.hid hr
  have HLN : Hid ((numsTo t R g t.length).length = t.length) := Lib.hid (length_numsTo _ _ _ _)
  have hg16 := hg.g16
  have hn2 := hg.n2
  have HRED : Hid (∀ (W : World) (u : Value), IntsAt W u (rwTo t R g ws r ws.length).2 → Calls Try.prog 120 #[u] W (RedPost (rwTo t R g ws r ws.length).2 W)) := Lib.hid fun W u hu =>
    reduce120_any W u _ hu (rwTo_mild hg hs R hl hr ws.length (Nat.le_refl _)) (by have := rwTo_len t R g ws r ws.length; omega)
  have HFT : Hid (Fits (rwTo t R g ws r ws.length).2) := Lib.hid (Mild.fits (rwTo_mild hg hs R hl hr ws.length (Nat.le_refl _)))
  have HRE : Hid (rwW t R g r ws = red (rwTo t R g ws r ws.length).2) := Lib.hid rfl
  generalize (numsTo t R g t.length).length = nn at *
  have hws0 : (0 : Int) ≤ (ws.length : Int) := Int.natCast_nonneg _
  clear hnew hbel hsz hS hg hs hw3 hl hr hw
  generalize hw0 : w.alloc (.cells #[.int .i64 (g : Int), .slice At t.length ct, .slice Ar R.length cr, .slice An nn cn, .int .i64 m] 99) = w0 at *
  have HW0 := Lib.hid hw0
  clear hw0
  go_enter Try.func77, Try.ntmps77
  go_wp2_with fail
  rw [HW0.out]
  go_loopw [1, 7, 8] (fun ra so i wr => ∃ k n : Nat, i = .int .i64 k ∧ k ≤ ws.length ∧ n ≤ k ∧ Hid (n = (rwTo t R g ws r k).2.length) ∧ Hid (ra = .int .i64 (runTo t ws r k : Int)) ∧ ∃ A c, so = .slice A n c ∧ Hid (ListSt w0 wr so (rwTo t R g ws r k).2)) (fun _ _ i _ => ws.length - (intOf i).toNat)
  case atStart => exact ⟨0, 0, rfl, by omega, by omega, Lib.hid rfl, Lib.hid rfl, none, 0, rfl, Lib.hid ⟨World.ownsRow_nil _ _ _ _, Below.refl _ _⟩⟩
  case round =>
    obtain ⟨k, n, rfl, hk, hnk, HN, HRA, A, c, rfl, HST⟩ := hrel
    have hra := HRA.out
    subst hra
    clear HRA
    have hk0 : (0 : Int) ≤ (k : Int) := Int.natCast_nonneg _
    by_cases hlt : k < ws.length
    · have hlt' : (k : Int) < (ws.length : Int) := by omega
      obtain ⟨bw, ow, rfl, hcc⟩ := HW3.out (by omega)
      have hck := hcc k hlt
      have hB := HBE.out.trans (HST.out.2.mono HBE.out.size)
      have hkeep : ∀ {b o : Nat} {u : Value}, w.cell? ⟨b, o, none⟩ = some u → wr.cell? ⟨b, o, none⟩ = some u := fun {b o u} h => (hB.cell (p := ⟨b, o, none⟩) (World.block_lt_of_cell? w _ h)).trans h
      have hck' := hkeep hck
      obtain ⟨p0, p1, p2, p3, p4⟩ := box_cells5 ((HST.out.2.block w.heap.size (by have := HSZ.out; omega)).trans HNEW.out)
      have hrk := runTo_lt HG.out HSD.out HL.out HR.out k (by omega)
      have hx := HL.out.at_ hlt
      have HSUCC := Lib.hid (rwTo_succ t R g ws r k)
      have HRUN : Hid (runTo t ws r (k + 1) = stepW t (runTo t ws r k) (ws.getD k 0)) := Lib.hid rfl
      have hrl := HG.out.len _ hrk
      have hr0 : (0 : Int) ≤ (runTo t ws r k : Int) := Int.natCast_nonneg _
      have hr1 : (runTo t ws r k : Int) < (t.length : Int) := by omega
      have hr2 : (runTo t ws r k : Int) < (nn : Int) := by have := HLN.out; omega
      obtain ⟨cc, hc1, hc2, hc3, hc4⟩ := stepW_at HG.out HSD.out hrk hx
      have HXL : Hid ((rwTo t R g ws r k).2.length ≤ 1000000) := Lib.hid (by have := rwTo_len t R g ws r k; omega)
      clear hcc hck hc2
      generalize hxe1 : rwTo t R g ws r (k + 1) = X' at *
      have HXE := Lib.hid hxe1
      clear hxe1
      generalize rwTo t R g ws r k = X2 at *
      generalize hrn1 : runTo t ws r (k + 1) = rn at *
      have HRNE := Lib.hid hrn1
      clear hrn1
      generalize runTo t ws r k = rk at *
      generalize ws.getD k 0 = x at *
      obtain ⟨hx1, hx2, hx3⟩ := hx
      by_cases hp : 0 < x
      · obtain ⟨j, rfl⟩ : ∃ j : Nat, x = (j : Int) + 1 := ⟨(x - 1).toNat, by omega⟩
        have hjg : j < g := by omega
        obtain ⟨bn, on, rfl, -, bu, ou, cu, hu1, hu2⟩ := Tab.at2 HSY.out.nums (r := rk) (k := j) (by rw [length_numsTo]; exact hrk) (by unfold Tb.row; rw [numsTo_get hrk, length_rowL]; exact hjg)
        have ha2 : Tb.at (numsTo t R g t.length) rk j = number t R g rk j := by
          unfold Tb.at Tb.row; rw [numsTo_get hrk]; exact rowL_get hjg hjg
        have hl2 : (Tb.row (numsTo t R g t.length) rk).length = g := by unfold Tb.row; rw [numsTo_get hrk, length_rowL]
        rw [ha2] at hu2
        rw [hl2] at hu1
        obtain ⟨bt, ot, rfl, -, bv, ov, cv, hv1, hv2⟩ := Tab.at2 HSY.out.tab (r := rk) (k := 2 * j) hrk (by rw [hrl]; omega)
        have hpos := HSD.out.pos rk hrk (2 * j) (by rw [hrl]; omega)
        have hst : t.at rk (2 * j) = (stepW t rk ((j : Int) + 1) : Int) := by rw [stepW_pos]; omega
        rw [hst] at hv2
        rw [hrl] at hv1
        have HCE : Hid (∀ W, Below w0.heap.size w0 W → (W.cell? ⟨w.heap.size, 1, none⟩ = some (.slice (some ⟨bt, ot, none⟩) t.length ct) ∧ W.cell? ⟨w.heap.size, 3, none⟩ = some (.slice (some ⟨bn, on, none⟩) nn cn) ∧
            W.cell? ⟨bn, on + rk, none⟩ = some (.slice (some ⟨bu, ou, none⟩) g cu) ∧ W.cell? ⟨bu, ou + j, none⟩ = some (.int .i64 (number t R g rk j)) ∧ W.cell? ⟨bt, ot + rk, none⟩ = some (.slice (some ⟨bv, ov, none⟩) (2 * g) cv) ∧ W.cell? ⟨bv, ov + 2 * j, none⟩ = some (.int .i64 (stepW t rk ((j : Int) + 1) : Int)))) := Lib.hid fun W hW => by
          have hk1 : ∀ {b o : Nat} {u : Value}, w.cell? ⟨b, o, none⟩ = some u → W.cell? ⟨b, o, none⟩ = some u := fun {b o u} h => ((HBE.out.trans (hW.mono HBE.out.size)).cell (p := ⟨b, o, none⟩) (World.block_lt_of_cell? w _ h)).trans h
          obtain ⟨q0, q1, q2, q3, q4⟩ := box_cells5 ((hW.block w.heap.size (by have := HSZ.out; omega)).trans HNEW.out)
          exact ⟨q1, q3, hk1 hu1, hk1 hu2, hk1 hv1, hk1 hv2⟩
        obtain ⟨z1, z3, hu1', hu2', hv1', hv2'⟩ := HCE.out wr HST.out.2
        rw [letN_pos] at HSUCC
        have hj0 : (0 : Int) ≤ (j : Int) := Int.natCast_nonneg _
        have hj1 : (j : Int) < (g : Int) := by omega
        have hj2 : (j : Int) ≤ 16 := by omega
        have hq0 : 2 * ((j : Int) + 1) - 2 = ((2 * j : Nat) : Int) := by omega
        have hq1 : ((2 * j : Nat) : Int) < ((2 * g : Nat) : Int) := by omega
        have hq2 : (0 : Int) ≤ ((2 * j : Nat) : Int) := by omega
        have hnb := number_bd t R g rk j
        have hnb2 : number t R g rk j ≤ 400000 := by
          have h3 : rk * g ≤ 20000 * 16 := Nat.mul_le_mul (by omega) hg16
          omega
        have hnb1 := hnb.1
        clear hB hkeep hu1 hu2 hv1 hv2 ha2 hl2 hpos hst hrl hc1 hc3 hnb p0 p1 p2 p3 p4
        generalize stepW t rk ((j : Int) + 1) = s at *
        generalize number t R g rk j = N at *
        generalize 2 * j = g2 at *
        generalize 2 * g = gg at *
        by_cases hN : 0 < N
        · have HX : Hid (X'.2 = X2.2 ++ [N]) := Lib.hid (by rw [HSUCC.out, if_pos (by omega)])
          obtain ⟨A', c', w', hrun, hls⟩ := HST.out.push HN.out N HXL.out
          have HAPP := Lib.hid hrun
          have HLS := Lib.hid hls
          have HN2 : Hid (n + 1 = X'.2.length) := Lib.hid (by rw [HX.out, List.length_append, ← HN.out]; rfl)
          obtain ⟨y1, y3, -, -, y5, y6⟩ := HCE.out w' hls.2
          clear hrun hls
          go_wp2_with ((with_reducible refine wpList_sel 38 ?_); refine wpList_val rfl (r_app (.tmp 35) (.tmp 37) 25 rfl rfl rfl HAPP.out) ?_)
          go_roundw
          case rel => exact ⟨k + 1, n + 1, by go_num, by omega, by omega, by rw [HXE.out]; exact HN2, Lib.hid (by rw [HRNE.out, HRUN.out]), A', c', rfl, by rw [HXE.out, HX.out]; exact HLS⟩
          case measure => simp [intOf]; omega
        · have HX : Hid (X'.2 = X2.2) := Lib.hid (by rw [HSUCC.out, if_neg (by omega)])
          have HN2 : Hid (n = X'.2.length) := Lib.hid (by rw [HX.out]; exact HN.out)
          go_wp2_with fail
          go_roundw
          case rel => exact ⟨k + 1, n, by go_num, by omega, by omega, by rw [HXE.out]; exact HN2, Lib.hid (by rw [HRNE.out, HRUN.out]), A, c, rfl, by rw [HXE.out, HX.out]; exact HST⟩
          case measure => simp [intOf]; omega
      · obtain ⟨j, rfl⟩ : ∃ j : Nat, x = -((j : Int) + 1) := ⟨(-x - 1).toNat, by omega⟩
        have hjg : j < g := by omega
        obtain ⟨bt, ot, rfl, -, bv, ov, cv, hv1, hv2⟩ := Tab.at2 HSY.out.tab (r := rk) (k := 2 * j + 1) hrk (by rw [hrl]; omega)
        have hpos := HSD.out.pos rk hrk (2 * j + 1) (by rw [hrl]; omega)
        have hst : t.at rk (2 * j + 1) = (stepW t rk (-((j : Int) + 1)) : Int) := by rw [stepW_neg]; omega
        rw [hst] at hv2
        rw [hrl] at hv1
        rw [letN_neg] at HSUCC
        generalize stepW t rk (-((j : Int) + 1)) = s at *
        obtain ⟨bn, on, rfl, -, bu, ou, cu, hu1, hu2⟩ := Tab.at2 HSY.out.nums (r := s) (k := j) (by rw [length_numsTo]; exact hc4) (by unfold Tb.row; rw [numsTo_get hc4, length_rowL]; exact hjg)
        have ha2 : Tb.at (numsTo t R g t.length) s j = number t R g s j := by
          unfold Tb.at Tb.row; rw [numsTo_get hc4]; exact rowL_get hjg hjg
        have hl2 : (Tb.row (numsTo t R g t.length) s).length = g := by unfold Tb.row; rw [numsTo_get hc4, length_rowL]
        rw [ha2] at hu2
        rw [hl2] at hu1
        have HCE : Hid (∀ W, Below w0.heap.size w0 W → (W.cell? ⟨w.heap.size, 1, none⟩ = some (.slice (some ⟨bt, ot, none⟩) t.length ct) ∧ W.cell? ⟨w.heap.size, 3, none⟩ = some (.slice (some ⟨bn, on, none⟩) nn cn) ∧
            W.cell? ⟨bn, on + s, none⟩ = some (.slice (some ⟨bu, ou, none⟩) g cu) ∧ W.cell? ⟨bu, ou + j, none⟩ = some (.int .i64 (number t R g s j)) ∧ W.cell? ⟨bt, ot + rk, none⟩ = some (.slice (some ⟨bv, ov, none⟩) (2 * g) cv) ∧ W.cell? ⟨bv, ov + (2 * j + 1), none⟩ = some (.int .i64 (s : Int)))) := Lib.hid fun W hW => by
          have hk1 : ∀ {b o : Nat} {u : Value}, w.cell? ⟨b, o, none⟩ = some u → W.cell? ⟨b, o, none⟩ = some u := fun {b o u} h => ((HBE.out.trans (hW.mono HBE.out.size)).cell (p := ⟨b, o, none⟩) (World.block_lt_of_cell? w _ h)).trans h
          obtain ⟨q0, q1, q2, q3, q4⟩ := box_cells5 ((hW.block w.heap.size (by have := HSZ.out; omega)).trans HNEW.out)
          exact ⟨q1, q3, hk1 hu1, hk1 hu2, hk1 hv1, hk1 hv2⟩
        obtain ⟨z1, z3, hu1', hu2', hv1', hv2'⟩ := HCE.out wr HST.out.2
        have hj0 : (0 : Int) ≤ (j : Int) := Int.natCast_nonneg _
        have hj1 : (j : Int) < (g : Int) := by omega
        have hj2 : (j : Int) ≤ 16 := by omega
        have hq0 : 2 * ((j : Int) + 1) - 1 = ((2 * j + 1 : Nat) : Int) := by omega
        have hq1 : ((2 * j + 1 : Nat) : Int) < ((2 * g : Nat) : Int) := by omega
        have hq2 : (0 : Int) ≤ ((2 * j + 1 : Nat) : Int) := by omega
        have hs0 : (0 : Int) ≤ (s : Int) := Int.natCast_nonneg _
        have hs1 : (s : Int) < (nn : Int) := by have := HLN.out; omega
        have hnb := number_bd t R g s j
        have hnb2 : number t R g s j ≤ 400000 := by
          have h3 : s * g ≤ 20000 * 16 := Nat.mul_le_mul (by omega) hg16
          omega
        have hnb1 := hnb.1
        have hxn : -(-((j : Int) + 1)) = (j : Int) + 1 := by omega
        have hxn2 : (j : Int) + 1 - 1 = (j : Int) := by omega
        have hgt : ¬ (0 : Int) < -((j : Int) + 1) := hp
        clear hB hkeep hu1 hu2 hv1 hv2 ha2 hl2 hpos hst hrl hc1 hc3 hnb p0 p1 p2 p3 p4 hp
        generalize hxe : -((j : Int) + 1) = x at *
        clear hxe
        generalize number t R g s j = N at *
        generalize 2 * j + 1 = g2 at *
        generalize 2 * g = gg at *
        by_cases hN : 0 < N
        · have HX : Hid (X'.2 = X2.2 ++ [-N]) := Lib.hid (by rw [HSUCC.out, if_pos (by omega)])
          obtain ⟨A', c', w', hrun, hls⟩ := HST.out.push HN.out (-N) HXL.out
          have HAPP := Lib.hid hrun
          have HLS := Lib.hid hls
          have HN2 : Hid (n + 1 = X'.2.length) := Lib.hid (by rw [HX.out, List.length_append, ← HN.out]; rfl)
          clear hrun hls
          go_wp2_with ((with_reducible refine wpList_sel 76 ?_); refine wpList_val rfl (r_app (.tmp 72) (.tmp 75) 25 rfl rfl rfl HAPP.out) ?_)
          go_roundw
          case rel => exact ⟨k + 1, n + 1, by go_num, by omega, by omega, by rw [HXE.out]; exact HN2, Lib.hid (by rw [HRNE.out, HRUN.out]), A', c', rfl, by rw [HXE.out, HX.out]; exact HLS⟩
          case measure => simp [intOf]; omega
        · have HX : Hid (X'.2 = X2.2) := Lib.hid (by rw [HSUCC.out, if_neg (by omega)])
          have HN2 : Hid (n = X'.2.length) := Lib.hid (by rw [HX.out]; exact HN.out)
          go_wp2_with fail
          go_roundw
          case rel => exact ⟨k + 1, n, by go_num, by omega, by omega, by rw [HXE.out]; exact HN2, Lib.hid (by rw [HRNE.out, HRUN.out]), A, c, rfl, by rw [HXE.out, HX.out]; exact HST⟩
          case measure => simp [intOf]; omega
    · obtain rfl : k = ws.length := by omega
      rename World => wz
      have hI := OwnI.ints HST.out.1 HFT.out
      have HC := Lib.hid (HRED.out wz _ hI)
      have HB := Lib.hid (HBE.out.trans (HST.out.2.mono HBE.out.size))
      clear hI
      go_wp2_with (go_at_call 120; (refine HC.out.mono ?_); rintro e w3 ⟨A', c', rfl, ho, hb⟩
                   have HO := Lib.hid (owns_base ho HB.out.size)
                   have HB3 := Lib.hid (HB.out.trans (hb.mono HB.out.size))
                   rw [← HRE.out] at HO ⊢
                   clear ho hb)
      go_ret
      exact ⟨_, _, rfl, HO.out, HB3.out⟩
end Go.Proofs
namespace Go.Proofs
open Go.RowKit Go.Shelf Go.Proofs.Ct Go.Maps

set_option maxRecDepth 100000 in
set_option maxHeartbeats 1000000 in
theorem rewrite21_bad (w : World) (v u : Value) (g fr : Int) (t : Tb) (ws : List Int) (ht : Tab w v t) (hu : IntsAt w u ws) (he : (repsE g t).2 ≠ 0) : Calls Try.prog 21 #[.int .i64 g, v, .int .i64 fr, u] w (RewPost g t fr ws w) := by
  have HC := Lib.hid (of69_bad w v g t ht he)
  have HE : Hid (rewE g t fr ws = ([], (repsE g t).2)) := Lib.hid (by unfold rewE; rw [if_pos he])
  have d1 : ((repsE g t).2 != 0) = true := by simpa using he
  obtain ⟨A, c, rfl⟩ := Tab.form ht
  obtain ⟨Au, cu, rfl, -, -, -⟩ := hu.open_
  generalize (repsE g t).2 = x at *
  clear ht he hu
  go_enter Try.func21, Try.ntmps21
  go_wp2_with (first
    | (go_at_call 69; (refine HC.out.mono ?_); rintro e w1 ⟨rfl, hb⟩
       have HN1 := Lib.hid (heap_alloc_new w1 (.cells zero99 99))
       have HB1 := Lib.hid hb
       clear hb)
    | ((with_reducible refine wpList_sel 10 ?_); refine wpList_val rfl (r_alloc99 rfl) ?_; refine wpList_skip rfl (r_store99 (.tmp 10) (.tmp 17) rfl w1.heap.size zero99 zero99 rfl rfl HN1.out rfl rfl zero99_one) ?_))
  go_ret2
  exact ⟨⟨.slice none 0 0, ret_of2 rfl (by rw [HE.out]), by rw [HE.out]; exact intsAt_nil⟩, below_boxed HB1.out _ _⟩

theorem any_letBad {g : Nat} {ws : List Int} (h : ∀ j, j < ws.length → letBad g (ws.getD j 0) = false) : ws.any (letBad g) = false := any_false_of h

set_option maxRecDepth 100000 in
set_option maxHeartbeats 2000000 in
theorem rewrite21_good (w : World) (v u : Value) (g : Nat) (fr : Int) (t : Tb) (ws : List Int) (ht : Tab w v t) (hu : IntsAt w u ws) (hg : TGood g t) (hstd : std t 0 = some t) : Calls Try.prog 21 #[.int .i64 (g : Int), v, .int .i64 fr, u] w (RewPost g t fr ws w) := by
  have hck := check_of_good hg
  have hre : repsE g t = (reps t, 0) := by unfold repsE; rw [hck, if_neg (by simp), if_pos hstd]
  have HC := Lib.hid (of69_good w v g t ht hg hstd)
  have HE : Hid (rewE g t fr ws = if (decide (fr < 0) || decide ((t.length : Int) ≤ fr) || ws.any (letBad g)) = true then ([], 2) else if 4000 < ws.length then ([], 4) else (rwW t (reps t) g fr.toNat ws, 0)) := Lib.hid (by
    unfold rewE; rw [hre, if_neg (by simp)]; rfl)
  have hg16 := hg.g16
  have hg0 : (0 : Int) ≤ (g : Int) := Int.natCast_nonneg _
  have hg1 : (g : Int) ≤ 16 := by omega
  have HG := Lib.hid hg
  have HSTD := Lib.hid (std_iff hstd)
  have HU := Lib.hid hu
  obtain ⟨A, c, rfl⟩ := Tab.form ht
  obtain ⟨Au, cu, rfl, hu1, hu2, hu3⟩ := hu.open_
  have HUC := Lib.hid hu3
  clear ht hstd hck hre hg hu hu3
  by_cases h1 : fr < 0
  · have HZ : Hid (rewE g t fr ws = ([], 2)) := Lib.hid (by rw [HE.out, if_pos (by simp [h1])])
    go_enter Try.func21, Try.ntmps21
    go_wp2_with (first
      | (go_at_call 69; (refine HC.out.mono ?_); rintro e w1 ⟨⟨vr, vn, rfl, hS⟩, hb⟩
         obtain ⟨Ar, cr, rfl⟩ := Tab.form hS.reps
         obtain ⟨An, cn, rfl⟩ := Tab.form hS.nums
         have HN1 := Lib.hid (heap_alloc_new w1 (.cells zero99 99))
         have HB1 := Lib.hid hb
         have HS := Lib.hid hS
         clear hb hS)
      | ((with_reducible refine wpList_sel 10 ?_); refine wpList_val rfl (r_alloc99 rfl) ?_; refine wpList_skip rfl (r_store99 (.tmp 10) (.tmp 17) rfl w1.heap.size zero99 #[.int .i64 (g : Int), .slice A t.length c, .slice Ar (reps t).length cr, .slice An (numsTo t (reps t) g t.length).length cn, .int .i64 ((pairs t (reps t) g).length : Int)] rfl rfl HN1.out rfl rfl (one99 _ _ _ _ _ _ _ _ _ _ _)) ?_))
    go_ret2
    exact ⟨⟨.slice none 0 0, ret_of2 rfl (by rw [HZ.out]), by rw [HZ.out]; exact intsAt_nil⟩, below_boxed HB1.out _ _⟩
  · by_cases h2 : (t.length : Int) ≤ fr
    · have HZ : Hid (rewE g t fr ws = ([], 2)) := Lib.hid (by rw [HE.out, if_pos (by simp [h2])])
      go_enter Try.func21, Try.ntmps21
      go_wp2_with (first
        | (go_at_call 69; (refine HC.out.mono ?_); rintro e w1 ⟨⟨vr, vn, rfl, hS⟩, hb⟩
           obtain ⟨Ar, cr, rfl⟩ := Tab.form hS.reps
           obtain ⟨An, cn, rfl⟩ := Tab.form hS.nums
           have HN1 := Lib.hid (heap_alloc_new w1 (.cells zero99 99))
           have HB1 := Lib.hid hb
           have HS := Lib.hid hS
           clear hb hS)
        | ((with_reducible refine wpList_sel 10 ?_); refine wpList_val rfl (r_alloc99 rfl) ?_; refine wpList_skip rfl (r_store99 (.tmp 10) (.tmp 17) rfl w1.heap.size zero99 #[.int .i64 (g : Int), .slice A t.length c, .slice Ar (reps t).length cr, .slice An (numsTo t (reps t) g t.length).length cn, .int .i64 ((pairs t (reps t) g).length : Int)] rfl rfl HN1.out rfl rfl (one99 _ _ _ _ _ _ _ _ _ _ _)) ?_))
      go_ret2
      exact ⟨⟨.slice none 0 0, ret_of2 rfl (by rw [HZ.out]), by rw [HZ.out]; exact intsAt_nil⟩, below_boxed HB1.out _ _⟩
    · go_enter Try.func21, Try.ntmps21
      go_wp2_with (first
        | (go_at_call 69; (refine HC.out.mono ?_); rintro e w1 ⟨⟨vr, vn, rfl, hS⟩, hb⟩
           obtain ⟨Ar, cr, rfl⟩ := Tab.form hS.reps
           obtain ⟨An, cn, rfl⟩ := Tab.form hS.nums
           have HN1 := Lib.hid (heap_alloc_new w1 (.cells zero99 99))
           have HB1 := Lib.hid hb
           have HS := Lib.hid hS
           clear hb hS)
        | ((with_reducible refine wpList_sel 10 ?_); refine wpList_val rfl (r_alloc99 rfl) ?_; refine wpList_skip rfl (r_store99 (.tmp 10) (.tmp 17) rfl w1.heap.size zero99 #[.int .i64 (g : Int), .slice A t.length c, .slice Ar (reps t).length cr, .slice An (numsTo t (reps t) g t.length).length cn, .int .i64 ((pairs t (reps t) g).length : Int)] rfl rfl HN1.out rfl rfl (one99 _ _ _ _ _ _ _ _ _ _ _)) ?_))
      have HB2 := Lib.hid (below_boxed HB1.out (.cells zero99 99) #[.int .i64 (g : Int), .slice A t.length c, .slice Ar (reps t).length cr, .slice An (numsTo t (reps t) g t.length).length cn, .int .i64 ((pairs t (reps t) g).length : Int)])
      have HBX := Lib.hid (setRow_heap (w1.alloc (.cells zero99 99)) w1.heap.size zero99 #[.int .i64 (g : Int), .slice A t.length c, .slice Ar (reps t).length cr, .slice An (numsTo t (reps t) g t.length).length cn, .int .i64 ((pairs t (reps t) g).length : Int)] 99 (0, 0) HN1.out)
      have HS2 := Lib.hid (HS.out.below (below_boxed (Below.refl _ _) (.cells zero99 99) #[.int .i64 (g : Int), .slice A t.length c, .slice Ar (reps t).length cr, .slice An (numsTo t (reps t) g t.length).length cn, .int .i64 ((pairs t (reps t) g).length : Int)]))
      generalize hw2 : (w1.alloc (.cells zero99 99)).setRow w1.heap.size #[.int .i64 (g : Int), .slice A t.length c, .slice Ar (reps t).length cr, .slice An (numsTo t (reps t) g t.length).length cn, .int .i64 ((pairs t (reps t) g).length : Int)] = w2 at *
      clear hw2 HN1
      go_loopw [12] (fun i wr => ∃ k : Nat, i = .int .i64 k ∧ k ≤ ws.length ∧ Hid (∀ j, j < k → letBad g (ws.getD j 0) = false) ∧ wr = w2) (fun i _ => ws.length - (intOf i).toNat)
      case atStart => exact ⟨0, rfl, by omega, Lib.hid fun j hj => absurd hj (by omega), rfl⟩
      case round =>
        obtain ⟨k, rfl, hk, HZ1, rfl⟩ := hrel
        have hk0 : (0 : Int) ≤ (k : Int) := Int.natCast_nonneg _
        by_cases hlt : k < ws.length
        · have hlt' : (k : Int) < (ws.length : Int) := by omega
          obtain ⟨bw, ow, rfl, hcc⟩ := HUC.out (by omega)
          have hck := hcc k hlt
          have hck' := (HB2.out.cell (p := ⟨bw, ow + k, none⟩) (World.block_lt_of_cell? w _ hck)).trans hck
          have HNX : Hid (letBad g (ws.getD k 0) = false → ∀ j, j < k + 1 → letBad g (ws.getD j 0) = false) := Lib.hid fun h => fun j hj => by
            rcases Nat.lt_or_ge j k with h' | h'
            · exact HZ1.out j h'
            · have : j = k := by omega
              rw [this]; exact h
          have HBD : Hid (letBad g (ws.getD k 0) = true → rewE g t fr ws = ([], 2)) := Lib.hid fun h => by
            rw [HE.out, if_pos (by rw [any_true_of hlt h]; simp)]
          have h0 : letBad g (ws.getD k 0) = (decide (ws.getD k 0 = 0) || decide (ws.getD k 0 < -(g : Int)) || decide ((g : Int) < ws.getD k 0)) := rfl
          have H0 := Lib.hid h0
          clear hcc hck h0
          generalize letBad g (ws.getD k 0) = lb at *
          generalize ws.getD k 0 = x at *
          by_cases e1 : x = 0
          · have HZ := Lib.hid (HBD.out (by rw [H0.out]; simp [e1]))
            have d1 : (x == 0) = true := by simpa using e1
            clear e1
            go_wp2_with fail
            go_ret2
            exact ⟨⟨.slice none 0 0, ret_of2 rfl (by rw [HZ.out]), by rw [HZ.out]; exact intsAt_nil⟩, HB2.out⟩
          · have d1 : (x == 0) = false := by simpa using e1
            by_cases e2 : (g : Int) < x
            · have HZ := Lib.hid (HBD.out (by rw [H0.out]; simp [e2]))
              clear e1
              go_wp2_with fail
              go_ret2
              exact ⟨⟨.slice none 0 0, ret_of2 rfl (by rw [HZ.out]), by rw [HZ.out]; exact intsAt_nil⟩, HB2.out⟩
            · by_cases e3 : x < -(g : Int)
              · have HZ := Lib.hid (HBD.out (by rw [H0.out]; simp [e3]))
                clear e1
                go_wp2_with fail
                go_ret2
                exact ⟨⟨.slice none 0 0, ret_of2 rfl (by rw [HZ.out]), by rw [HZ.out]; exact intsAt_nil⟩, HB2.out⟩
              · have HZ2 := Lib.hid (HNX.out (by rw [H0.out]; simp [e1, e2, e3]))
                clear e1
                go_wp2_with fail
                go_roundw
                case rel => exact ⟨k + 1, by go_num, by omega, HZ2, (by first | trivial | rfl)⟩
                case measure => simp [intOf]; omega
        · obtain rfl : k = ws.length := by omega
          have HANY := Lib.hid (any_letBad HZ1.out)
          by_cases h4 : 4000 < ws.length
          · have h4' : (4000 : Int) < (ws.length : Int) := by omega
            have HZ : Hid (rewE g t fr ws = ([], 4)) := Lib.hid (by rw [HE.out, if_neg (by rw [HANY.out]; simp; omega), if_pos h4])
            clear h4
            go_wp2_with fail
            go_ret2
            exact ⟨⟨.slice none 0 0, ret_of2 rfl (by rw [HZ.out]), by rw [HZ.out]; exact intsAt_nil⟩, HB2.out⟩
          · have h4' : ¬ (4000 : Int) < (ws.length : Int) := by omega
            have HZ : Hid (rewE g t fr ws = (rwW t (reps t) g fr.toNat ws, 0)) := Lib.hid (by rw [HE.out, if_neg (by rw [HANY.out]; simp; omega), if_neg h4])
            have h5 : fr.toNat < t.length := by omega
            have h6 : fr = ((fr.toNat : Nat) : Int) := by omega
            generalize fr.toNat = r at *
            subst h6
            have hlen : ws.length ≤ 100000 := by omega
            have HRW := Lib.hid (rewrite77_any wr (.slice A t.length c) (.slice Ar (reps t).length cr) (.slice An (numsTo t (reps t) g t.length).length cn) _ ((pairs t (reps t) g).length : Int) g t (reps t) r ws HS2.out HG.out HSTD.out h5 (kept_ints.below HU.out HB2.out) (letsOk_of HANY.out) hlen)
            clear h4 HE
            go_wp2_with (first
              | ((with_reducible refine wpList_sel 61 ?_); refine wpList_val rfl (r_loadAt 99 (.tmp 10) _ _ rfl rfl (load99 HBX.out)) ?_)
              | (go_at_call 77; (refine HRW.out.mono ?_); rintro e w3 ⟨A', c', rfl, ho, hb⟩
                 have HO := Lib.hid ho
                 have HB3 := Lib.hid (HB2.out.trans (hb.mono HB2.out.size))
                 clear ho hb))
            go_ret2
            exact ⟨⟨_, ret_of2 rfl (by rw [HZ.out]), by rw [HZ.out]; exact OwnI.ints HO.out (Mild.fits (rwW_mild HG.out HSTD.out (reps t) (letsOk_of HANY.out) h5))⟩, HB3.out⟩
theorem rewrite21_any (w : World) (v u : Value) (g fr : Int) (t : Tb) (ws : List Int) (ht : Tab w v t) (hu : IntsAt w u ws) : Calls Try.prog 21 #[.int .i64 g, v, .int .i64 fr, u] w (RewPost g t fr ws w) := by
  by_cases he : (repsE g t).2 = 0
  · obtain ⟨gn, rfl, hg, hstd, -⟩ := repsE_good he
    exact rewrite21_good w v u gn fr t ws ht hu hg hstd
  · exact rewrite21_bad w v u g fr t ws ht hu he
theorem gens19_any (w : World) (v : Value) (g : Int) (t : Tb) (ht : Tab w v t) : Calls Try.prog 19 #[.int .i64 g, v] w (GensPost g t w) := by
  by_cases he : (repsE g t).2 = 0
  · obtain ⟨gn, rfl, hg, hstd, -⟩ := repsE_good he
    exact gens19_good w v gn t ht hg hstd
  · exact gens19_bad w v g t ht he
end Go.Proofs
namespace Go.Proofs
open Go.RowKit Go.Shelf Go.Proofs.Ct Go.Maps

def presentE (g : Int) (rels : List W) (t : Tb) : (Int × List W) × Int :=
  if presE g rels ≠ 0 then ((0, []), presE g rels) else
  if (repsE g t).2 ≠ 0 then ((0, []), (repsE g t).2) else
  if holdsB rels [] t = false then ((0, []), 13) else
  if 16 < (pairs t (reps t) g.toNat).length then ((0, []), 5) else
  if tooLong (relTo t (reps t) g.toNat rels t.length) = true then ((0, []), 4) else
  ((((pairs t (reps t) g.toNat).length : Int), relTo t (reps t) g.toNat rels t.length), 0)
def PresentPost (g : Int) (rels : List W) (t : Tb) (w : World) (e : Ending) (w' : World) : Prop :=
  (∃ u, e = .returned (.tuple #[.agg #[.int .i64 (presentE g rels t).1.1, u], .int .i64 (presentE g rels t).2]) ∧ Tab w' u (presentE g rels t).1.2) ∧ Below w.heap.size w w'

def zero40 : Array Value := #[.int .i64 0, .slice none 0 0]
theorem build40z (w : World) : (Instr.build 40 #[]).run Try.prog w = .ok (.agg zero40) w := by kernel_rfl
theorem build40m (m : Int) (w : World) : (Instr.build 40 #[(0, .int .i64 m)]).run Try.prog w = .ok (.agg #[.int .i64 m, .slice none 0 0]) w := by kernel_rfl
theorem alloc40 (w : World) : (Instr.alloc 40 true (.tuple #[])).run Try.prog w = .ok (.pointer (some ⟨w.heap.size, 0, none⟩)) (w.alloc (.cells zero40 40)) := by kernel_rfl
theorem info40s : (Try.prog.info? 40).map (·.size) = some 2 := by kernel_rfl
theorem zero40_one : zero40.all (·.oneCell') = true := by simp [zero40, Value.oneCell']
theorem one40 (A : Option Addr) (n a : Nat) (x : Int) : (#[Value.int .i64 x, .slice A n a] : Array Value).all (·.oneCell') = true := by simp [Value.oneCell']
section
variable {o : Oper} {a : Act} {w w' : World} {n : Nat} {v : Value}
theorem r_store40 (x y : Operand) (ho : o.op = .store 40 x y) (g : Nat) (old c' : Array Value) (hx : a.eval x = .pointer (some ⟨g, 0, none⟩)) (hy : a.eval y = .agg c') (hg : w.heap[g]? = some (.cells old 40 (0, 0)))
    (hi : c'.size = 2) (hoo : old.size = 2) (h1 : c'.all (·.oneCell') = true) : (execOp a.eval o).run Try.prog w = .ok .skip (w.setRow g c') := by
  unfold execOp
  simp only [ho, hx, hy, Instr.storeAt, Instr.sureAddr, Sem.run_bind, Sem.run_pure, Result.andThen_ok, run_storeVar_row w g 40 40 old c' hg (by rw [hi]; exact info40s) (by rw [hi, hoo]) h1]
theorem r_build40 (ho : o.op = .build 40 #[]) : (execOp a.eval o).run Try.prog w = .ok (.value (.agg zero40)) w := by
  have hb := build40z w
  unfold execOp
  simp only [ho, List.map_toArray, List.map_nil, Sem.run_bind, hb, Result.andThen_ok]
  rfl
theorem r_build40m (x : Operand) (m : Int) (ho : o.op = .build 40 #[(0, x)]) (hx : a.eval x = .int .i64 m) : (execOp a.eval o).run Try.prog w = .ok (.value (.agg #[.int .i64 m, .slice none 0 0])) w := by
  have hb := build40m m w
  unfold execOp
  simp only [ho, List.map_toArray, List.map_cons, List.map_nil, hx, Sem.run_bind, hb, Result.andThen_ok]
  rfl
theorem r_alloc40 (ho : o.op = .alloc 40) : (execOp a.eval o).run Try.prog w = .ok (.value (.pointer (some ⟨w.heap.size, 0, none⟩))) (w.alloc (.cells zero40 40)) := by
  have hb := alloc40 w
  unfold execOp
  simp only [ho, Sem.run_bind, hb, Result.andThen_ok]
  rfl
end
theorem results_40_tmp {fn : Func} {p q : Tmp} (h : fn.results = #[.cell p 40, .tmp q]) (tmps : Array Value) (w : World) (g : Nat) (cs : Array Value) (u : Value)
    (hp : tmps.getD p undef = .pointer (some ⟨g, 0, none⟩)) (hq : tmps.getD q undef = u) (hg : w.heap[g]? = some (.cells cs 40 (0, 0))) (hs : cs.size = 2) :
    (results fn tmps).run Try.prog w = .ok (.tuple #[.agg cs, u]) w := by
  have hp' : tmps[p]?.getD undef = .pointer (some ⟨g, 0, none⟩) := by simpa using hp
  have hq' : tmps[q]?.getD undef = u := by simpa using hq
  simp [results, h, hp', hq', asAddr, run_loadVar_row w g 40 40 cs (0, 0) _ hg Try.underlying40 rfl (by rw [hs]; exact info40s)]

/-- the relators under way: the result's box b, the list in it -/
structure PrSt (F : Nat → Prop) (w0 : World) (m : Int) (wr : World) (A : Option Addr) (c : Nat) (acc : List W) : Prop where
  out : OutSt 25 F w0 wr (.slice A acc.length c) acc
  box : wr.heap[w0.heap.size]? = some (.cells #[.int .i64 m, .slice A acc.length c] 40 (0, 0))
theorem PrSt.below' {F : Nat → Prop} {w0 wr w' : World} {m : Int} {A : Option Addr} {c : Nat} {acc : List W} (h : PrSt F w0 m wr A c acc) (hb : Below wr.heap.size wr w') : PrSt F w0 m w' A c acc :=
  ⟨h.out.below' hb, (hb.block _ (Array.getElem?_eq_some_iff.1 h.box).1).trans h.box⟩
theorem PrSt.first (w0 : World) (m : Int) : PrSt (fun _ => False) w0 m ((w0.alloc (.cells zero40 40)).setRow w0.heap.size #[.int .i64 m, .slice none 0 0]) none 0 [] :=
  ⟨OutSt.nil 25 (below_boxed (Below.refl _ _) _ _), setRow_heap _ _ _ _ _ _ (heap_alloc_new w0 _)⟩
theorem PrSt.push {F : Nat → Prop} {w0 wr w1 : World} {m : Int} {A : Option Addr} {c : Nat} {acc : List W} (h : PrSt F w0 m wr A c acc) {Ax : Option Addr} {cx : Nat} {x : List Int} (hb : Below wr.heap.size wr w1) (hx : OwnI wr.heap.size w1 (.slice Ax x.length cx) x) (hf : Fits x) (hl : acc.length ≤ 1000000) :
    ∃ A' c' w', (Builtin.append_ #[31, 31] 31 #[.slice A acc.length c, .slice (some ⟨w1.heap.size, 0, none⟩) 1 1]).run Try.prog (w1.alloc (.cells #[.slice Ax x.length cx] 25)) = .ok (.slice A' (acc.length + 1) c') w' ∧
      (w'.cell? ⟨w0.heap.size, 1, none⟩ = some (.slice A acc.length c) ∧ w'.frozen? ⟨w0.heap.size, 1, none⟩ = false) ∧
      PrSt (fun k => F k ∨ (Value.slice Ax x.length cx).ownBlock = some k) w0 m (w'.setCell ⟨w0.heap.size, 1, none⟩ (.slice A' (acc.length + 1) c')) A' c' (acc ++ [x]) := by
  have h1 := h.below' hb
  obtain ⟨A', c', w', hr, hS, hg⟩ := (h.out.with_row hb hx).done' (t := 31) (e := 25) (by decide) Try.underlying31 info25p hf hl
  have hbx : w'.heap[w0.heap.size]? = some (.cells #[.int .i64 m, .slice A acc.length c] 40 (0, 0)) := grown_cells hg h1.box fun e => by
    obtain ⟨-, C, hC⟩ := h1.out.out.block _ e
    rw [h1.box] at hC
    cases hC
  refine ⟨A', c', w', hr, ⟨(cell_of2 hbx).2, by simp [World.frozen?, hbx]⟩, ?_, ?_⟩
  · have := hS.grown (grown_setCell w' w0.heap.size 1 (.slice A' (acc.length + 1) c')) fun r hr => by
      cases hr
      refine ⟨Nat.le_refl _, fun hF => ?_, fun e => ?_⟩
      · obtain ⟨-, -, C, hC⟩ := hS.fs _ hF
        rw [hbx] at hC
        cases hC
      · obtain ⟨-, C, hC⟩ := hS.out.block _ e
        rw [hbx] at hC
        cases hC
    rwa [show (acc ++ [x]).length = acc.length + 1 by simp]
  · rw [show (acc ++ [x]).length = acc.length + 1 by simp]
    simp [World.setCell, Array.getElem?_modify, hbx]
end Go.Proofs
