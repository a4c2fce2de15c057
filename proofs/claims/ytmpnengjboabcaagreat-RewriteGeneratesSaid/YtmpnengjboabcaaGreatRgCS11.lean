/- The references' checks of a presentation; Columns of letters; where a word leads; fine; Complete; slices.ContainsFunc at lists of lists; coset.Complete; Holds: the plain law; the closures of coset.Holds. -/
import Derived.Test.YtmpnengjboabcaaGreatRgCS10
import Derived.Test.YtmpnengjboabcaaGreatRgCS1
import Derived.Test.YtmpnengjboabcaaGreatRgCS5
namespace Go.Proofs
open Go.RowKit Go.Shelf Go.Proofs.Ct Go.Maps
def PresPost1 (g : Int) (rels : List W) (w : World) (e : Ending) (w' : World) : Prop := e = .returned (.int .i64 (presE g rels)) ∧ Below w.heap.size w w'
set_option maxRecDepth 100000 in
set_option maxHeartbeats 400000 in
theorem letters96_any (w : World) (g : Nat) (v : Value) (ws : List Int) (hg : g ≤ 16) (hu : IntsAt w v ws) : Calls Tryz.prog 76 #[.int .i64 (g : Int), v] w fun e w' => e = .returned (.bool (!(ws.any (letBad g)))) ∧ w' = w := by
  obtain ⟨A, c, rfl, hu1, hu2, hu3⟩ := hu.open_
  have HC := Lib.hid hu3
  have hg0 : (0 : Int) ≤ (g : Int) := Int.natCast_nonneg _
  have hg1 : (g : Int) ≤ 16 := by omega
  clear hu hu3
  go_enter Tryz.func76, Tryz.ntmps76
  go_wp2_with fail
  go_loopw [5] (fun i wr => ∃ k : Nat, i = .int .i64 k ∧ k ≤ ws.length ∧ Hid (∀ j, j < k → letBad g (ws.getD j 0) = false) ∧ wr = w) (fun i _ => ws.length - (intOf i).toNat)
  case atStart => exact ⟨0, rfl, by omega, Lib.hid fun j hj => absurd hj (by omega), rfl⟩
  case round =>
    obtain ⟨k, rfl, hk, HZ1, rfl⟩ := hrel
    have hk0 : (0 : Int) ≤ (k : Int) := Int.natCast_nonneg _
    by_cases hlt : k < ws.length
    · have hlt' : (k : Int) < (ws.length : Int) := by omega
      obtain ⟨bw, ow, rfl, hcc⟩ := HC.out (by omega)
      have hck := hcc k hlt
      have HNX : Hid (letBad g (ws.getD k 0) = false → ∀ j, j < k + 1 → letBad g (ws.getD j 0) = false) := Lib.hid fun h => all_succ HZ1.out h
      have HBD : Hid (letBad g (ws.getD k 0) = true → ws.any (letBad g) = true) := Lib.hid fun h => any_true_of hlt h
      have h0 : letBad g (ws.getD k 0) = (decide (ws.getD k 0 = 0) || decide (ws.getD k 0 < -(g : Int)) || decide ((g : Int) < ws.getD k 0)) := rfl
      have H0 := Lib.hid h0
      clear hcc h0
      generalize letBad g (ws.getD k 0) = lb at *
      generalize ws.getD k 0 = x at *
      by_cases e1 : x = 0
      · have HZ := Lib.hid (HBD.out (by rw [H0.out]; simp [e1]))
        have d1 : (x == 0) = true := by simpa using e1
        clear e1
        go_wp2_with fail
        go_ret
        exact ⟨ret_bool (by rw [HZ.out]; rfl), (by first | trivial | rfl)⟩
      · have d1 : (x == 0) = false := by simpa using e1
        by_cases e2 : (g : Int) < x
        · have HZ := Lib.hid (HBD.out (by rw [H0.out]; simp [e2]))
          clear e1
          go_wp2_with fail
          go_ret
          exact ⟨ret_bool (by rw [HZ.out]; rfl), (by first | trivial | rfl)⟩
        · by_cases e3 : x < -(g : Int)
          · have HZ := Lib.hid (HBD.out (by rw [H0.out]; simp [e3]))
            clear e1
            go_wp2_with fail
            go_ret
            exact ⟨ret_bool (by rw [HZ.out]; rfl), (by first | trivial | rfl)⟩
          · have HZ2 := Lib.hid (HNX.out (by rw [H0.out]; simp [e1, e2, e3]))
            clear e1
            go_wp2_with fail
            go_roundw
            case rel => exact ⟨k + 1, by go_num, by omega, HZ2, (by first | trivial | rfl)⟩
            case measure => simp [intOf]; omega
    · obtain rfl : k = ws.length := by omega
      have HZ := Lib.hid (any_false_of HZ1.out)
      go_wp2_with fail
      go_ret
      exact ⟨ret_bool (by rw [HZ.out]; rfl), (by first | trivial | rfl)⟩
set_option maxRecDepth 100000 in
set_option maxHeartbeats 1000000 in
theorem pcheck95_any (w : World) (vr : Value) (g : Int) (rels : List W) (hR : Tab w vr rels) (hsm : ∀ j, (rels.getD j []).length ≤ 100000) : Calls Tryz.prog 75 #[.agg #[.int .i64 g, vr]] w (PresPost1 g rels w) := by
  obtain ⟨Ar, cr, rfl, r1, r2, r3⟩ := hR.open_
  have hbel : Below w.heap.size w (w.alloc (.cells #[.int .i64 g, .slice Ar rels.length cr] 26)) := (Below.refl _ _).alloc (Nat.le_refl _) _
  have HBE := Lib.hid hbel
  have HSM0 := Lib.hid hsm
  clear hsm
  have HR := Lib.hid r3
  have hnew := heap_alloc_new w (.cells #[.int .i64 g, .slice Ar rels.length cr] 26)
  have hn0 : (0 : Int) ≤ (rels.length : Int) := Int.natCast_nonneg _
  by_cases h1 : g < 1 ∨ 16 < g
  · have HZ := Lib.hid (presE_range (rels := rels) h1)
    clear hR r3 hbel hnew
    by_cases h2 : g < 1
    · clear h1
      go_enter Tryz.func75, Tryz.ntmps75
      go_wp2_with fail
      go_ret
      exact ⟨ret_int HZ.out.symm, HBE.out⟩
    · have h3 : 16 < g := by omega
      clear h1
      go_enter Tryz.func75, Tryz.ntmps75
      go_wp2_with fail
      go_ret
      exact ⟨ret_int HZ.out.symm, HBE.out⟩
  · obtain ⟨gn, rfl⟩ : ∃ gn : Nat, g = gn := ⟨g.toNat, by omega⟩
    have hg1 : ¬ (gn : Int) < 1 := by omega
    have hg2 : ¬ (16 : Int) < (gn : Int) := by omega
    by_cases h4 : 100 < rels.length
    · have h4' : (100 : Int) < (rels.length : Int) := by omega
      have HZ := Lib.hid (presE_many (rels := rels) h1 h4)
      clear hR r3 hbel hnew h1 h4
      go_enter Tryz.func75, Tryz.ntmps75
      go_wp2_with fail
      go_ret
      exact ⟨ret_int HZ.out.symm, HBE.out⟩
    · have h4' : ¬ (100 : Int) < (rels.length : Int) := by omega
      have h4'' : (rels.length : Int) ≤ 100 := by omega
      have HS : Hid (∀ k, k < rels.length → (∀ j, j < k → presBad gn rels j = 0) → presBad gn rels k ≠ 0 → presE (gn : Int) rels = presBad gn rels k) := Lib.hid fun k => presE_some (by omega) (by omega)
      have HN := Lib.hid (@presE_none gn rels (by omega) (by omega))
      have hgn : gn ≤ 16 := by omega
      have hx0 := (cell_of2 hnew).1
      have hx1 := (cell_of2 hnew).2
      clear hR r3 hbel hnew h1 h4
      go_enter Tryz.func75, Tryz.ntmps75
      go_wp2_with fail
      generalize hw0 : w.alloc (.cells #[.int .i64 (gn : Int), .slice Ar rels.length cr] 26) = w0 at *
      clear hw0
      go_loopw [3, 4] (fun l i wr => ∃ k s : Nat, i = .int .i64 k ∧ k ≤ rels.length ∧ l = .int .i64 (s : Int) ∧ s ≤ 4000 ∧ Hid (s = sumTo rels k ∧ ∀ j, j < k → presBad gn rels j = 0) ∧ ∃ q, wr = w0.drewN q) (fun _ i _ => rels.length - (intOf i).toNat)
      case atStart => exact ⟨0, 0, rfl, by omega, rfl, by omega, Lib.hid ⟨rfl, fun j hj => absurd hj (by omega)⟩, 0, rfl⟩
      case round =>
        obtain ⟨k, s, rfl, hk, rfl, hs, HK, q, rfl⟩ := hrel
        have hk0 : (0 : Int) ≤ (k : Int) := Int.natCast_nonneg _
        by_cases hlt : k < rels.length
        · have hlt' : (k : Int) < (rels.length : Int) := by omega
          obtain ⟨b, o, rfl, hcc⟩ := HR.out (by omega)
          obtain ⟨u, hu, hI⟩ := hcc k hlt
          have hu' : w0.cell? ⟨b, o + k, none⟩ = some u := (HBE.out.cell (p := ⟨b, o + k, none⟩) (World.block_lt_of_cell? w _ hu)).trans hu
          have HI := Lib.hid (hI.below HBE.out)
          obtain ⟨Au, cu, rfl, u1, u2, -⟩ := hI.open_
          have HSU := Lib.hid (sumTo_succ rels k)
          have HBL := Lib.hid (@presBad_long gn rels k)
          have HBT := Lib.hid (@presBad_let gn rels k)
          have HBO := Lib.hid (@presBad_ok gn rels k)
          have HSK : Hid (presBad gn rels k ≠ 0 → presE gn rels = presBad gn rels k) := Lib.hid (HS.out k hlt HK.out.2)
          have HNX : Hid (presBad gn rels k = 0 → ∀ j, j < k + 1 → presBad gn rels j = 0) := Lib.hid fun h => all_succ HK.out.2 h
          have HSM := Lib.hid HK.out.1
          have HPR : Hid (∀ n, Calls Tryz.prog 76 #[.int .i64 (gn : Int), .slice Au (rels.getD k []).length cu] (w0.drewN n) fun e w' => e = .returned (.bool (!((rels.getD k []).any (letBad gn)))) ∧ w0.drewN n = w') := Lib.hid fun n => (letters96_any (w0.drewN n) gn _ (rels.getD k []) hgn (HI.out.drewN n)).mono fun e w' ⟨h, h'⟩ => ⟨h, h'.symm⟩
          have hln0 : (0 : Int) ≤ ((rels.getD k []).length : Int) := Int.natCast_nonneg _
          have hLs := HSM0.out k
          clear hcc hI hu HI HS HN HR
          generalize hpe : presE (gn : Int) rels = pe at *
          have HPE := Lib.hid hpe
          clear hpe
          generalize presBad gn rels k = pb at *
          generalize hsm : sumTo rels (k + 1) = sm at *
          have HSME := Lib.hid hsm
          clear hsm
          generalize (rels.getD k []).any (letBad gn) = lb at *
          generalize (rels.getD k []).length = L at *
          have hs0 : (0 : Int) ≤ (s : Int) := Int.natCast_nonneg _
          have hs1 : (s : Int) ≤ 4000 := by omega
          have hL2 : (L : Int) ≤ 100000 := by omega
          by_cases hov : 4000 < s + L
          · have hov' : (4000 : Int) < (s : Int) + (L : Int) := by omega
            have HZ : Hid (pe = 4) := Lib.hid (by have h1 := HBL.out (by rw [HSU.out, ← HSM.out]; exact hov); rw [HSK.out (by omega), h1])
            clear hov
            go_wp2_with fail
            go_ret
            exact ⟨ret_int (by rw [HPE.out, HZ.out]), below_drewN HBE.out _⟩
          · have hov' : ¬ (4000 : Int) < (s : Int) + (L : Int) := by omega
            have HSV := Lib.hid hov
            have hsl : s + L ≤ 4000 := by omega
            clear hov
            cases lb with
            | true =>
              have HZ : Hid (pe = 2) := Lib.hid (by have h1 := HBT.out (by rw [HSU.out, ← HSM.out]; exact HSV.out) rfl; rw [HSK.out (by omega), h1])
              go_wp2_with fail
              go_quiet ((go_at_call 76; exact quiet_add_left (HPR.out _)))
              go_wp2_with fail
              go_ret
              exact ⟨ret_int (by rw [HPE.out, HZ.out]), below_drewN (below_drewN HBE.out _) _⟩
            | false =>
              have HZ : Hid (∀ j, j < k + 1 → presBad gn rels j = 0) := Lib.hid (HNX.out (HBO.out (by rw [HSU.out, ← HSM.out]; exact HSV.out) rfl))
              go_wp2_with fail
              go_quiet ((go_at_call 76; exact quiet_add_left (HPR.out _)))
              go_wp2_with fail
              go_roundw
              case rel => exact ⟨k + 1, s + L, by go_num, by omega, by go_num, hsl, Lib.hid ⟨by rw [HSME.out, HSU.out, HSM.out], HZ.out⟩, (by first | exact ⟨_, rfl⟩ | exact ex_drewN)⟩
              case measure => simp [intOf]; omega
        · obtain rfl : k = rels.length := by omega
          have HZ := Lib.hid (HN.out HK.out.2)
          clear HS HN HR
          go_wp2_with fail
          go_ret
          exact ⟨ret_int HZ.out.symm, below_drewN HBE.out _⟩
end Go.Proofs
namespace Go.Proofs
open Go.RowKit Go.Shelf Go.Proofs.Ct Go.Maps
theorem col_lt {g : Nat} {x : Int} (h : -(g : Int) ≤ x ∧ x ≤ g ∧ x ≠ 0) : col x < 2 * g := by
  unfold col
  split <;> omega
theorem col_pos {x : Int} (h : 0 < x) : ((col x : Nat) : Int) = 2 * (x - 1) := by unfold col; rw [if_pos h]; omega
theorem col_neg {x : Int} (h : ¬ 0 < x) (h0 : x ≠ 0) : ((col x : Nat) : Int) = 2 * (-x - 1) + 1 := by unfold col; rw [if_neg h]; omega
theorem col133_any (w : World) (x : Int) (h : -1000000 ≤ x ∧ x ≤ 1000000 ∧ x ≠ 0) : Calls Tryz.prog 59 #[.int .i64 x] w fun e w' => e = .returned (.int .i64 (col x : Nat)) ∧ w = w' := by
  obtain ⟨h1, h2, h3⟩ := h
  by_cases hp : x < 0
  · have HC := Lib.hid (col_neg (by omega : ¬ 0 < x) h3)
    go_enter Tryz.func59, Tryz.ntmps59
    go_wp2_with fail
    go_ret
    exact ⟨ret_int (by rw [HC.out]), (by first | trivial | rfl)⟩
  · have HC := Lib.hid (col_pos (by omega : 0 < x))
    go_enter Tryz.func59, Tryz.ntmps59
    go_wp2_with fail
    go_ret
    exact ⟨ret_int (by rw [HC.out]), (by first | trivial | rfl)⟩
theorem col108_any (w : World) (x : Int) (h : -1000000 ≤ x ∧ x ≤ 1000000 ∧ x ≠ 0) : Calls Tryz.prog 104 #[.int .i64 x] w fun e w' => e = .returned (.int .i64 (col x : Nat)) ∧ w = w' := by
  obtain ⟨h1, h2, h3⟩ := h
  by_cases hp : 0 < x
  · have HC := Lib.hid (col_pos hp)
    go_enter Tryz.func104, Tryz.ntmps104
    go_wp2_with fail
    go_ret
    exact ⟨ret_int (by rw [HC.out]), (by first | trivial | rfl)⟩
  · have HC := Lib.hid (col_neg hp h3)
    go_enter Tryz.func104, Tryz.ntmps104
    go_wp2_with fail
    go_ret
    exact ⟨ret_int (by rw [HC.out]), (by first | trivial | rfl)⟩
theorem leadTo_bd {g : Nat} {t : Tb} (hg : TGood g t) {ws : List Int} (hl : LetsOk g ws) {r : Int} (hr : -1 ≤ r ∧ r < t.length) : ∀ k, k ≤ ws.length → -1 ≤ leadTo t r ws k ∧ leadTo t r ws k < t.length
  | 0, _ => hr
  | k + 1, hk => by
    have ih := leadTo_bd hg hl hr k (by omega)
    rw [leadTo_succ]
    split
    · exact ih
    · exact hg.bd _ (by omega) _ (col_lt (hl.at_ (by omega)))
theorem ret_ib {k : IntKind} {a c : Int} {b d : Bool} (h : a = c) (h' : b = d) : Ending.returned (.tuple #[.int k a, .bool b]) = Ending.returned (.tuple #[.int k c, .bool d]) := by rw [h, h']
def TracePost (l : Int) (w : World) (e : Ending) (w' : World) : Prop := (e = .returned (.tuple #[.int .i64 (if l < 0 then 0 else l), .bool (decide (0 ≤ l))])) ∧ ∃ q, w' = w.drewN q
set_option maxRecDepth 100000 in
set_option maxHeartbeats 1000000 in
theorem trace94_any (w : World) (v u : Value) (g : Nat) (t : Tb) (r : Nat) (ws : List Int) (ht : Tab w v t) (hu : IntsAt w u ws) (hg : TGood g t) (hl : LetsOk g ws) (hr : r < t.length) :
    Calls Tryz.prog 31 #[v, .int .i64 (r : Int), u] w (TracePost (leads t r ws) w) := by
  obtain ⟨A, c, rfl, h1, h2, h3⟩ := ht.open_
  obtain ⟨Au, cu, rfl, hu1, hu2, hu3⟩ := hu.open_
  obtain ⟨bt, ot, rfl, h4⟩ := h3 (by omega)
  have HT := Lib.hid h4
  have HU := Lib.hid hu3
  have HG := Lib.hid hg
  have HL := Lib.hid hl
  have hrI : (r : Int) < (t.length : Int) := by omega
  have hr0 : (0 : Int) ≤ (r : Int) := Int.natCast_nonneg _
  have HBD := Lib.hid (fun k hk => leadTo_bd hg hl (r := (r : Int)) (by omega) k hk)
  have hn2 := hg.n2
  have hg16 := hg.g16
  clear ht hu h3 h4 hu3 hg hl
  go_enter Tryz.func31, Tryz.ntmps31
  go_wp2_with fail
  go_loopw [1, 12] (fun f i wr => ∃ k s : Nat, i = .int .i64 k ∧ k ≤ ws.length ∧ f = .int .i64 (s : Int) ∧ s < t.length ∧ Hid ((s : Int) = leadTo t r ws k) ∧ ∃ q, wr = w.drewN q) (fun _ i _ => ws.length - (intOf i).toNat)
  case atStart => exact ⟨0, r, rfl, by omega, rfl, hr, Lib.hid rfl, 0, rfl⟩
  case round =>
    obtain ⟨k, s, rfl, hk, rfl, hs, HS, q, rfl⟩ := hrel
    have hk0 : (0 : Int) ≤ (k : Int) := Int.natCast_nonneg _
    have hs0 : (0 : Int) ≤ (s : Int) := Int.natCast_nonneg _
    by_cases hlt : k < ws.length
    · have hlt' : (k : Int) < (ws.length : Int) := by omega
      have hsI : (s : Int) < (t.length : Int) := by omega
      obtain ⟨bw, ow, rfl, hcc⟩ := HU.out (by omega)
      have hck := hcc k hlt
      obtain ⟨u, hu, hI⟩ := HT.out s hs
      have hI2 : IntsAt w u (t.row s) := hI
      obtain ⟨Ar, cr, rfl, hr1, hr2, hr3⟩ := hI2.open_
      have hx := HL.out.at_ hlt
      have hcol := col_lt hx
      have hrl := HG.out.len s hs
      obtain ⟨br, or', rfl, hrc⟩ := hr3 (by omega)
      have hcx := hrc (col (ws.getD k 0)) (by omega)
      have hbd := HG.out.bd s hs _ hcol
      have HNX : Hid (leadTo t r ws (k + 1) = (t.row s).getD (col (ws.getD k 0)) 0) := Lib.hid (by
        rw [leadTo_succ, ← HS.out, if_neg (by omega), Int.toNat_natCast]; rfl)
      have HNEG : Hid ((t.row s).getD (col (ws.getD k 0)) 0 < 0 → leads t r ws < 0) := Lib.hid fun h => leads_neg (k := k + 1) (by omega) (by rw [HNX.out]; exact h)
      have HCO : Hid (∀ n, Calls Tryz.prog 59 #[.int .i64 (ws.getD k 0)] (w.drewN n) fun e w' => e = .returned (.int .i64 (col (ws.getD k 0) : Nat)) ∧ w.drewN n = w') := Lib.hid fun n => col133_any _ _ (by omega)
      have hc0 : (0 : Int) ≤ ((col (ws.getD k 0) : Nat) : Int) := Int.natCast_nonneg _
      have hc1 : ((col (ws.getD k 0) : Nat) : Int) < ((t.row s).length : Int) := by omega
      have hbd' : -1 ≤ (t.row s).getD (col (ws.getD k 0)) 0 ∧ (t.row s).getD (col (ws.getD k 0)) 0 < t.length := hbd
      clear hcc hI hI2 hr3 hrc hx hcol hrl hbd
      generalize (t.row s).getD (col (ws.getD k 0)) 0 = y at *
      generalize col (ws.getD k 0) = cx at *
      generalize ws.getD k 0 = x at *
      obtain ⟨hy1, hy2⟩ := hbd'
      by_cases hy : y < 0
      · have HLN := Lib.hid (HNEG.out hy)
        go_wp2_with fail
        go_quiet ((go_at_call 59; exact quiet_add_left (HCO.out _)))
        go_wp2_with fail
        go_ret2
        exact ⟨ret_ib (by rw [if_pos HLN.out]) (by have := HLN.out; simp; omega), (by first | exact ⟨_, rfl⟩ | exact ex_drewN)⟩
      · obtain ⟨s', rfl⟩ : ∃ s' : Nat, y = s' := ⟨y.toNat, by omega⟩
        go_wp2_with fail
        go_quiet ((go_at_call 59; exact quiet_add_left (HCO.out _)))
        go_wp2_with fail
        go_roundw
        case rel => exact ⟨k + 1, s', by go_num, by omega, rfl, by omega, Lib.hid HNX.out.symm, (by first | exact ⟨_, rfl⟩ | exact ex_drewN)⟩
        case measure => simp [intOf]; omega
    · obtain rfl : k = ws.length := by omega
      have HZ : Hid ((s : Int) = leads t r ws) := Lib.hid HS.out
      go_wp2_with fail
      go_ret2
      exact ⟨ret_ib (by rw [← HZ.out, if_neg (by omega)]) (by rw [← HZ.out]; simp), (by first | exact ⟨_, rfl⟩ | exact ex_drewN)⟩
theorem pred124 (g B : Nat) (w : World) (hg : g ≤ 16) (hc : w.cell? ⟨B, 0, none⟩ = some (.int .i64 (g : Int))) :
    PredW 58 #[.pointer (some ⟨B, 0, none⟩)] (fun x => -9223372036854775808 ≤ x ∧ x ≤ 9223372036854775807) (letBad g) w := fun x q hx => by
  have hcq : (w.drewN q).cell? ⟨B, 0, none⟩ = some (.int .i64 (g : Int)) := hc
  show Calls Tryz.prog 58 #[.int .i64 x, .pointer (some ⟨B, 0, none⟩)] (w.drewN q) _
  have h0 : letBad g x = (decide (x = 0) || decide (x < -(g : Int)) || decide ((g : Int) < x)) := rfl
  have H0 := Lib.hid h0
  clear h0
  generalize hW : w.drewN q = W at *
  have HW := Lib.hid hW
  clear hW
  have hg0 : (0 : Int) ≤ (g : Int) := Int.natCast_nonneg _
  have hg1 : (g : Int) ≤ 16 := by omega
  by_cases h1 : x = 0
  · subst h1
    go_enter Tryz.func58, Tryz.ntmps58
    go_wp2_with fail
    go_ret
    exact ⟨ret_bool (by rw [H0.out]; simp), q, HW.out.symm⟩
  · have d1 : (x == 0) = false := by simpa using h1
    by_cases h2 : x < -(g : Int)
    · go_enter Tryz.func58, Tryz.ntmps58
      go_wp2_with fail
      go_ret
      exact ⟨ret_bool (by rw [H0.out]; simp [h2]), q, HW.out.symm⟩
    · by_cases h3 : (g : Int) < x
      · go_enter Tryz.func58, Tryz.ntmps58
        go_wp2_with fail
        go_ret
        exact ⟨ret_bool (by rw [H0.out]; simp [h3]), q, HW.out.symm⟩
      · go_enter Tryz.func58, Tryz.ntmps58
        go_wp2_with fail
        go_ret
        exact ⟨ret_bool (by rw [H0.out]; simp [h1, h2, h3]), q, HW.out.symm⟩
theorem eg124 : ∀ args w, (callFunc 58 args).run Tryz.prog w = .ok (.enter 58 args) w := enters_of Tryz.func58 (by kernel_rfl) rfl
set_option maxRecDepth 100000 in
theorem fine83_any (w : World) (g : Nat) (u : Value) (ws : List Int) (hg : g ≤ 16) (hu : IntsAt w u ws) : Calls Tryz.prog 30 #[.int .i64 (g : Int), u] w fun e w' => e = .returned (.bool (!(ws.any (letBad g)))) ∧ Below w.heap.size w w' := by
  have hb0 : Below w.heap.size w (w.alloc (.cells #[.int .i64 (g : Int)] 3)) := (Below.refl _ _).alloc (Nat.le_refl _) _
  have hnew0 := heap_alloc_new w (.cells #[.int .i64 (g : Int)] 3)
  have HC := Lib.hid (has74_any 58 _ _ _ (w.alloc (.cells #[.int .i64 (g : Int)] 3)) eg124 (pred124 g w.heap.size _ hg (cell_of1 hnew0).1) u ws (kept_ints.below hu hb0) (fun x hx => hu.2 x hx))
  have HB := Lib.hid hb0
  obtain ⟨A, c, rfl, -, -, -⟩ := hu.open_
  clear hu hb0 hnew0
  generalize ws.any (letBad g) = b at *
  go_enter Tryz.func30, Tryz.ntmps30
  go_wp2_with (go_at_call 42; (refine HC.out.mono ?_); rintro e w2 ⟨rfl, q, rfl⟩)
  go_ret
  exact ⟨rfl, below_drewN HB.out _⟩
end Go.Proofs
namespace Go.Proofs
open Go.RowKit Go.Shelf Go.Proofs.Ct Go.Maps
def PredB (g : Nat) (lb : Array Value) (p : List Int → Bool) (w : World) (xs : List (List Int)) : Prop :=
  ∀ (W : World) (u : Value) (k : Nat), Below w.heap.size w W → k < xs.length → IntsAt W u (xs.getD k []) → Calls Tryz.prog g (#[u] ++ lb) W fun e w' => e = .returned (.bool (p (xs.getD k []))) ∧ Below W.heap.size W w'
theorem any_false_ofR {p : List Int → Bool} {xs : List (List Int)} (h : ∀ j, j < xs.length → p (xs.getD j []) = false) : xs.any p = false := by
  rw [List.any_eq_false]
  intro x hx
  obtain ⟨c, hc, rfl⟩ := List.mem_iff_getElem.1 hx
  have := h c hc
  rw [List.getD_eq_getElem?_getD, List.getElem?_eq_getElem hc] at this
  simpa using this
theorem any_true_ofR {p : List Int → Bool} {xs : List (List Int)} {k : Nat} (hk : k < xs.length) (h : p (xs.getD k []) = true) : xs.any p = true := by
  rw [List.any_eq_true]
  rw [List.getD_eq_getElem?_getD, List.getElem?_eq_getElem hk] at h
  exact ⟨_, List.getElem_mem hk, h⟩
section
variable (g : Nat) (lb : Array Value) (p : List Int → Bool) (w : World) (eg : ∀ args w, (callFunc g args).run Tryz.prog w = .ok (.enter g args) w) (v : Value) (xs : List (List Int)) (h : Tab w v xs) (hp : PredB g lb p w xs)
include eg hp h
set_option maxRecDepth 100000 in
set_option maxHeartbeats 400000 in
theorem idx139_any : Calls Tryz.prog 102 #[v, .func (.func g) #[] lb] w fun e w' => IdxSaid (xs.any p) e ∧ Below w.heap.size w w' := by
  obtain ⟨A, c, rfl, hc1, hc2, hc⟩ := h.open_
  have HC := Lib.hid hc
  have HP := Lib.hid hp
  clear hc hp h
  go_enter Tryz.func102, Tryz.ntmps102
  go_wp2_with fail
  go_loopw [5, 8] (fun _ i wr => ∃ k : Nat, k ≤ xs.length ∧ i = .int .i64 k ∧ Hid (∀ j, j < k → p (xs.getD j []) = false) ∧ Hid (Below w.heap.size w wr)) (fun _ i _ => xs.length - (intOf i).toNat)
  case atStart => exact ⟨0, Nat.zero_le _, rfl, Lib.hid fun j hj => absurd hj (by omega), Lib.hid (Below.refl _ _)⟩
  case round =>
    obtain ⟨k, hk, rfl, HZ, HB⟩ := hrel
    have hk0 : (0 : Int) ≤ (k : Int) := Int.natCast_nonneg _
    by_cases hlt : k < xs.length
    · have hlt' : (k : Int) < (xs.length : Int) := by omega
      obtain ⟨b, o, rfl, hcc⟩ := HC.out (by omega)
      obtain ⟨u, hu, hI⟩ := hcc k hlt
      have hu' := (HB.out.cell (p := ⟨b, o + k, none⟩) (World.block_lt_of_cell? w _ hu)).trans hu
      have hI2 := hI.below HB.out
      have hcall := HP.out wr u k HB.out hlt hI2
      obtain ⟨Ar, cr, rfl, -, -, -⟩ := hI2.open_
      clear hcc hu hI hI2
      have HA := Lib.hid (any_true_ofR (p := p) hlt)
      have HN : Hid (p (xs.getD k []) = false → ∀ j, j < k + 1 → p (xs.getD j []) = false) := Lib.hid fun h => all_succ HZ.out h
      generalize hpx : p (xs.getD k []) = pb at *
      have HPX := Lib.hid hpx
      clear hpx
      generalize xs.getD k [] = x at *
      have HCALL := Lib.hid hcall
      clear hcall
      cases pb with
      | true =>
        have HA2 := Lib.hid (HA.out rfl)
        go_wp2_with (go_at_fn g; (refine HCALL.out.mono ?_); rintro e w' ⟨rfl, hb⟩; have HB2 := Lib.hid (HB.out.trans (hb.mono HB.out.size)); clear hb)
        go_ret
        exact ⟨⟨k, rfl, by rw [HA2.out]; simp⟩, HB2.out⟩
      | false =>
        have HN2 := Lib.hid (HN.out rfl)
        go_wp2_with (go_at_fn g; (refine HCALL.out.mono ?_); rintro e w' ⟨rfl, hb⟩; have HB2 := Lib.hid (HB.out.trans (hb.mono HB.out.size)); clear hb)
        go_roundw
        case rel => exact ⟨k + 1, by omega, by go_num, HN2, HB2⟩
        case measure => simp [intOf]; omega
    · obtain rfl : k = xs.length := by omega
      go_wp2_with fail
      go_ret
      exact ⟨⟨-1, rfl, by rw [any_false_ofR HZ.out]; rfl⟩, HB.out⟩
theorem has105_any : Calls Tryz.prog 90 #[v, .func (.func g) #[] lb] w fun e w' => e = .returned (.bool (xs.any p)) ∧ Below w.heap.size w w' := by
  have hcon := Lib.hid (idx139_any g lb p w eg v xs h hp)
  clear hp h
  go_enter Tryz.func90, Tryz.ntmps90
  go_wp2_with (go_at_call 102; (refine hcon.out.mono ?_); rintro e w' ⟨⟨r, rfl, hr⟩, hb⟩; have HR := Lib.hid hr; have HB := Lib.hid hb; clear hr hb)
  go_ret
  exact ⟨ret_bool HR.out, HB.out⟩
end
section
variable (g : Nat) (lb : Array Value) (p : List Int → Bool) (w : World) (eg : ∀ args w, (callFunc g args).run Tryz.prog w = .ok (.enter g args) w) (v : Value) (xs : List (List Int)) (h : Tab w v xs) (hp : PredB g lb p w xs)
include eg hp h
set_option maxRecDepth 100000 in
set_option maxHeartbeats 400000 in
theorem idx123_any : Calls Tryz.prog 61 #[v, .func (.func g) #[] lb] w fun e w' => IdxSaid (xs.any p) e ∧ Below w.heap.size w w' := by
  obtain ⟨A, c, rfl, hc1, hc2, hc⟩ := h.open_
  have HC := Lib.hid hc
  have HP := Lib.hid hp
  clear hc hp h
  go_enter Tryz.func61, Tryz.ntmps61
  go_wp2_with fail
  go_loopw [5, 8] (fun _ i wr => ∃ k : Nat, k ≤ xs.length ∧ i = .int .i64 k ∧ Hid (∀ j, j < k → p (xs.getD j []) = false) ∧ Hid (Below w.heap.size w wr)) (fun _ i _ => xs.length - (intOf i).toNat)
  case atStart => exact ⟨0, Nat.zero_le _, rfl, Lib.hid fun j hj => absurd hj (by omega), Lib.hid (Below.refl _ _)⟩
  case round =>
    obtain ⟨k, hk, rfl, HZ, HB⟩ := hrel
    have hk0 : (0 : Int) ≤ (k : Int) := Int.natCast_nonneg _
    by_cases hlt : k < xs.length
    · have hlt' : (k : Int) < (xs.length : Int) := by omega
      obtain ⟨b, o, rfl, hcc⟩ := HC.out (by omega)
      obtain ⟨u, hu, hI⟩ := hcc k hlt
      have hu' := (HB.out.cell (p := ⟨b, o + k, none⟩) (World.block_lt_of_cell? w _ hu)).trans hu
      have hI2 := hI.below HB.out
      have hcall := HP.out wr u k HB.out hlt hI2
      obtain ⟨Ar, cr, rfl, -, -, -⟩ := hI2.open_
      clear hcc hu hI hI2
      have HA := Lib.hid (any_true_ofR (p := p) hlt)
      have HN : Hid (p (xs.getD k []) = false → ∀ j, j < k + 1 → p (xs.getD j []) = false) := Lib.hid fun h => all_succ HZ.out h
      generalize hpx : p (xs.getD k []) = pb at *
      have HPX := Lib.hid hpx
      clear hpx
      generalize xs.getD k [] = x at *
      have HCALL := Lib.hid hcall
      clear hcall
      cases pb with
      | true =>
        have HA2 := Lib.hid (HA.out rfl)
        go_wp2_with (go_at_fn g; (refine HCALL.out.mono ?_); rintro e w' ⟨rfl, hb⟩; have HB2 := Lib.hid (HB.out.trans (hb.mono HB.out.size)); clear hb)
        go_ret
        exact ⟨⟨k, rfl, by rw [HA2.out]; simp⟩, HB2.out⟩
      | false =>
        have HN2 := Lib.hid (HN.out rfl)
        go_wp2_with (go_at_fn g; (refine HCALL.out.mono ?_); rintro e w' ⟨rfl, hb⟩; have HB2 := Lib.hid (HB.out.trans (hb.mono HB.out.size)); clear hb)
        go_roundw
        case rel => exact ⟨k + 1, by omega, by go_num, HN2, HB2⟩
        case measure => simp [intOf]; omega
    · obtain rfl : k = xs.length := by omega
      go_wp2_with fail
      go_ret
      exact ⟨⟨-1, rfl, by rw [any_false_ofR HZ.out]; rfl⟩, HB.out⟩
theorem has81_any : Calls Tryz.prog 33 #[v, .func (.func g) #[] lb] w fun e w' => e = .returned (.bool (xs.any p)) ∧ Below w.heap.size w w' := by
  have hcon := Lib.hid (idx123_any g lb p w eg v xs h hp)
  clear hp h
  go_enter Tryz.func33, Tryz.ntmps33
  go_wp2_with (go_at_call 61; (refine hcon.out.mono ?_); rintro e w' ⟨⟨r, rfl, hr⟩, hb⟩; have HR := Lib.hid hr; have HB := Lib.hid hb; clear hr hb)
  go_ret
  exact ⟨ret_bool HR.out, HB.out⟩
end
set_option maxRecDepth 100000 in
set_option maxHeartbeats 400000 in
theorem idx140_any (w : World) (v : Value) (xs : List Int) (z : Int) (h : IntsAt w v xs) : Calls Tryz.prog 103 #[v, .int .i64 z] w fun e w' => IdxSaid (xs.contains z) e ∧ w' = w := by
  obtain ⟨A, c, rfl, hc1, hc2, hc⟩ := h.open_
  have HC := Lib.hid hc
  clear hc h
  go_enter Tryz.func103, Tryz.ntmps103
  go_wp2_with fail
  go_loopw [5, 8] (fun _ i wr => ∃ k : Nat, k ≤ xs.length ∧ i = .int .i64 k ∧ Hid (∀ j, j < k → xs.getD j 0 ≠ z) ∧ wr = w) (fun _ i _ => xs.length - (intOf i).toNat)
  case atStart => exact ⟨0, Nat.zero_le _, rfl, Lib.hid fun j hj => absurd hj (by omega), rfl⟩
  case round =>
    obtain ⟨k, hk, rfl, HZ, rfl⟩ := hrel
    have hk0 : (0 : Int) ≤ (k : Int) := Int.natCast_nonneg _
    by_cases hlt : k < xs.length
    · have hlt' : (k : Int) < (xs.length : Int) := by omega
      obtain ⟨b, o, rfl, hcc⟩ := HC.out (by omega)
      have hck := hcc k hlt
      have HT : Hid (xs.getD k 0 = z → xs.contains z = true) := Lib.hid fun h => by
        rw [List.contains_iff_mem, ← h, List.getD_eq_getElem?_getD, List.getElem?_eq_getElem hlt]
        exact List.getElem_mem hlt
      have HN : Hid (xs.getD k 0 ≠ z → ∀ j, j < k + 1 → xs.getD j 0 ≠ z) := Lib.hid fun h => all_succ HZ.out h
      clear hcc
      generalize xs.getD k 0 = x at *
      by_cases hx : z = x
      · have d1 : (z == x) = true := by simpa using hx
        have HT2 := Lib.hid (HT.out hx.symm)
        clear hx
        go_wp2_with fail
        go_ret
        exact ⟨⟨k, rfl, by rw [HT2.out]; simp⟩, (by first | trivial | rfl)⟩
      · have d1 : (z == x) = false := by simpa using hx
        have HN2 := Lib.hid (HN.out fun h => hx h.symm)
        clear hx
        go_wp2_with fail
        go_roundw
        case rel => exact ⟨k + 1, by omega, by go_num, HN2, (by first | trivial | rfl)⟩
        case measure => simp [intOf]; omega
    · obtain rfl : k = xs.length := by omega
      have HF : Hid (xs.contains z = false) := Lib.hid (by
        rw [Bool.eq_false_iff]
        intro h
        rw [List.contains_iff_mem] at h
        obtain ⟨i, hi, he⟩ := List.mem_iff_getElem.1 h
        exact HZ.out i hi (by rw [List.getD_eq_getElem?_getD, List.getElem?_eq_getElem hi]; exact he))
      go_wp2_with fail
      go_ret
      exact ⟨⟨-1, rfl, by rw [HF.out]; rfl⟩, (by first | trivial | rfl)⟩
theorem has107_any (w : World) (v : Value) (xs : List Int) (z : Int) (h : IntsAt w v xs) : Calls Tryz.prog 92 #[v, .int .i64 z] w fun e w' => e = .returned (.bool (xs.contains z)) ∧ w' = w := by
  have hcon := Lib.hid (idx140_any w v xs z h)
  clear h
  go_enter Tryz.func92, Tryz.ntmps92
  go_wp2_with (go_at_call 103; (refine hcon.out.mono ?_); rintro e w' ⟨⟨r, rfl, hr⟩, rfl⟩; have HR := Lib.hid hr; clear hr)
  go_ret
  exact ⟨ret_bool HR.out, (by first | trivial | rfl)⟩
theorem neg1_106 (w : World) (v : Value) (xs : List Int) (h : IntsAt w v xs) : Calls Tryz.prog 91 #[v] w fun e w' => e = .returned (.bool (xs.contains (-1))) ∧ Below w.heap.size w w' := by
  have hcon := Lib.hid (has107_any w v xs (-1) h)
  clear h
  generalize xs.contains (-1) = b at *
  go_enter Tryz.func91, Tryz.ntmps91
  go_wp2_with (go_at_call 92; (refine hcon.out.mono ?_); rintro e w' ⟨rfl, rfl⟩)
  go_ret
  exact ⟨rfl, Below.refl _ _⟩
theorem eg106 : ∀ args w, (callFunc 91 args).run Tryz.prog w = .ok (.enter 91 args) w := enters_of Tryz.func91 (by kernel_rfl) rfl
theorem complete45_any (w : World) (v : Value) (t : Tb) (ht : Tab w v t) : Calls Tryz.prog 70 #[v] w fun e w' => e = .returned (.bool (complete t)) ∧ Below w.heap.size w w' := by
  have HC := Lib.hid (has105_any 91 #[] (fun row => row.contains (-1)) w eg106 v t ht fun W u k _ _ hI => neg1_106 W u _ hI)
  obtain ⟨A, c, rfl⟩ := Tab.form ht
  have HE : Hid ((!(t.any fun row => row.contains (-1))) = complete t) := Lib.hid rfl
  clear ht
  generalize (t.any fun row => row.contains (-1)) = b at *
  go_enter Tryz.func70, Tryz.ntmps70
  go_wp2_with (go_at_call 90; (refine HC.out.mono ?_); rintro e w' ⟨rfl, hb⟩; have HB := Lib.hid hb; clear hb)
  go_ret
  exact ⟨ret_bool HE.out, HB.out⟩
end Go.Proofs
namespace Go.Proofs
open Go.RowKit Go.Shelf Go.Proofs.Ct Go.Maps
def holdsE (g : Int) (rels sub : List W) (t : Tb) : Bool × Int :=
  if presE g rels ≠ 0 then (false, presE g rels) else
  if (sub.any fun w => w.any (letBad g.toNat)) = true then (false, 2) else
  if (check g t).1 ≠ 0 then (false, (check g t).1) else (holdsB rels sub t, 0)
def HoldsPost (g : Int) (rels sub : List W) (t : Tb) (w : World) (e : Ending) (w' : World) : Prop :=
  e = .returned (.tuple #[.bool (holdsE g rels sub t).1, .int .i64 (holdsE g rels sub t).2]) ∧ Below w.heap.size w w'
theorem all_getD {p : W → Bool} {l : List W} : l.all p = true ↔ ∀ j, j < l.length → p (l.getD j []) = true := by
  rw [List.all_eq_true]
  constructor
  · intro h j hj
    rw [List.getD_eq_getElem?_getD, List.getElem?_eq_getElem hj]
    exact h _ (List.getElem_mem hj)
  · intro h x hx
    obtain ⟨c, hc, rfl⟩ := List.mem_iff_getElem.1 hx
    have := h c hc
    rwa [List.getD_eq_getElem?_getD, List.getElem?_eq_getElem hc] at this
theorem staysB_true {t : Tb} {r : Int} {l : List W} (h : ∀ j, j < l.length → leads t r (l.getD j []) = r) : staysB t r l = true := all_getD.2 fun j hj => by simpa using h j hj
theorem staysB_false {t : Tb} {r : Int} {l : List W} {j : Nat} (hj : j < l.length) (h : leads t r (l.getD j []) ≠ r) : staysB t r l = false := by
  rw [Bool.eq_false_iff]
  intro h'
  have := all_getD.1 h' j hj
  simp at this
  exact h (by simpa using this)
theorem holds_true {rels sub : List W} {t : Tb} (h1 : complete t = true) (h2 : ∀ j, j < sub.length → leads t 0 (sub.getD j []) = 0) (h3 : ∀ r, r < t.length → staysB t (r : Int) rels = true) : holdsB rels sub t = true := by
  unfold holdsB
  rw [h1, staysB_true h2]
  simp only [Bool.true_and, List.all_eq_true, List.mem_range]
  exact h3
theorem holds_sub {rels sub : List W} {t : Tb} {j : Nat} (hj : j < sub.length) (h : leads t 0 (sub.getD j []) ≠ 0) : holdsB rels sub t = false := by
  unfold holdsB
  rw [staysB_false hj h]
  simp
theorem holds_rel {rels sub : List W} {t : Tb} {r j : Nat} (hr : r < t.length) (hj : j < rels.length) (h : leads t r (rels.getD j []) ≠ r) : holdsB rels sub t = false := by
  unfold holdsB
  have : ((List.range t.length).all fun r => staysB t (r : Int) rels) = false := by
    rw [Bool.eq_false_iff]
    intro h'
    rw [List.all_eq_true] at h'
    have := h' r (by simpa using hr)
    rw [staysB_false hj h] at this
    cases this
  rw [this]
  simp
theorem holds_part {rels sub : List W} {t : Tb} (h : complete t = false) : holdsB rels sub t = false := by unfold holdsB; rw [h]; rfl
theorem presE_good {g : Int} {rels : List W} (h : presE g rels = 0) : ∃ gn : Nat, g = gn ∧ 1 ≤ gn ∧ gn ≤ 16 ∧ rels.length ≤ 100 ∧ ∀ j, j < rels.length → LetsOk gn (rels.getD j []) ∧ (rels.getD j []).length ≤ 4000 := by
  unfold presE at h
  by_cases h1 : g < 1 ∨ 16 < g
  · rw [if_pos h1] at h; omega
  · rw [if_neg h1] at h
    by_cases h2 : 100 < rels.length
    · rw [if_pos h2] at h; omega
    · rw [if_neg h2] at h
      have hz : ∀ j, j < rels.length → presBad g.toNat rels j = 0 := by
        cases hf : first (fun k => decide (presBad g.toNat rels k ≠ 0)) rels.length with
        | none => intro j hj; simpa using first_none' hf j hj
        | some k =>
          rw [hf] at h
          have h3 := (first_some' hf).2.1
          simp at h3
          exact absurd h h3
      refine ⟨g.toNat, by omega, by omega, by omega, by omega, fun j hj => ?_⟩
      have hb := hz j hj
      unfold presBad at hb
      by_cases h3 : 4000 < sumTo rels (j + 1)
      · rw [if_pos h3] at hb; omega
      · rw [if_neg h3] at hb
        refine ⟨letsOk_of ?_, ?_⟩
        · cases hx : (rels.getD j []).any (letBad g.toNat) with
          | false => rfl
          | true => rw [hx] at hb; simp at hb
        · rw [sumTo_succ] at h3; omega
theorem subs_good {g : Nat} {sub : List W} (h : (sub.any fun w => w.any (letBad g)) = false) : ∀ j, j < sub.length → LetsOk g (sub.getD j []) := fun j hj => letsOk_of (by
  rw [List.any_eq_false] at h
  have := h (sub.getD j []) (by rw [List.getD_eq_getElem?_getD, List.getElem?_eq_getElem hj]; exact List.getElem_mem hj)
  exact Bool.eq_false_iff.2 this)
theorem load40 {w : World} {b : Nat} {v0 v1 : Value} (hc : w.heap[b]? = some (.cells #[v0, v1] 26 (0, 0))) : (Instr.loadAt 26 (.pointer (some ⟨b, 0, none⟩))).run Tryz.prog w = .ok (.agg #[v0, v1]) w := by
  have hr : w.rangeAt b 0 [v0, v1] := fun j v hj => by rw [cell_of_row _ _ _ _ _ _ hc, Nat.zero_add]; simpa using hj
  exact run_loadAt_mid (P := Tryz.prog) w b 0 26 [v0, v1] _ hr Tryz.underlying26 rfl (by kernel_rfl)
theorem neg91_any (w : World) (B g : Nat) (u : Value) (ws : List Int) (hg : g ≤ 16) (hc : w.cell? ⟨B, 0, none⟩ = some (.int .i64 (g : Int))) (hu : IntsAt w u ws) :
    Calls Tryz.prog 67 #[u, .pointer (some ⟨B, 0, none⟩)] w fun e w' => e = .returned (.bool (ws.any (letBad g))) ∧ Below w.heap.size w w' := by
  have HC := Lib.hid (fine83_any w g u ws hg hu)
  obtain ⟨A, c, rfl, -, -, -⟩ := hu.open_
  clear hu
  generalize ws.any (letBad g) = b at *
  go_enter Tryz.func67, Tryz.ntmps67
  go_wp2_with (go_at_call 30; (refine HC.out.mono ?_); rintro e w' ⟨rfl, hb⟩; have HB := Lib.hid hb; clear hb)
  go_ret
  exact ⟨ret_bool (by simp), HB.out⟩
theorem eg91 : ∀ args w, (callFunc 67 args).run Tryz.prog w = .ok (.enter 67 args) w := enters_of Tryz.func67 (by kernel_rfl) rfl
theorem stay92 (w : World) (r : Int) (p : Value) : Calls Tryz.prog 68 #[.int .i64 r, p] w fun e w' => e = .returned (.func (.func 69) #[] #[p, .pointer (some ⟨w.heap.size, 0, none⟩)]) ∧ w' = w.alloc (.cells #[.int .i64 r] 3) := by
  go_enter Tryz.func68, Tryz.ntmps68
  go_wp2_with fail
  go_ret
  exact ⟨rfl, rfl⟩
set_option maxRecDepth 100000 in
theorem stay93 (w : World) (B R : Nat) (v u : Value) (g : Nat) (t : Tb) (r : Nat) (ws : List Int) (hB : w.cell? ⟨B, 0, none⟩ = some v) (hR : w.cell? ⟨R, 0, none⟩ = some (.int .i64 (r : Int))) (ht : Tab w v t) (hu : IntsAt w u ws) (hg : TGood g t) (hl : LetsOk g ws) (hr : r < t.length) :
    Calls Tryz.prog 69 #[u, .pointer (some ⟨B, 0, none⟩), .pointer (some ⟨R, 0, none⟩)] w fun e w' => e = .returned (.bool (decide (leads t r ws = (r : Int)))) ∧ Below w.heap.size w w' := by
  have HC := Lib.hid (trace94_any w v u g t r ws ht hu hg hl hr)
  have hbd := leadTo_bd hg hl (r := (r : Int)) (by omega) ws.length (Nat.le_refl _)
  have hbd' : -1 ≤ leads t r ws ∧ leads t r ws < t.length := hbd
  obtain ⟨A, c, rfl⟩ := Tab.form ht
  obtain ⟨Au, cu, rfl, -, -, -⟩ := hu.open_
  have hr0 : (0 : Int) ≤ (r : Int) := Int.natCast_nonneg _
  clear ht hu hg hl hbd
  generalize leads t r ws = l at *
  obtain ⟨l1, l2⟩ := hbd'
  unfold TracePost at HC
  by_cases h : l < 0
  · have HZ : Hid (decide (l = (r : Int)) = false) := Lib.hid (decide_eq_false (by omega))
    rw [if_pos h, decide_eq_false (by omega : ¬ 0 ≤ l)] at HC
    clear h
    generalize decide (l = (r : Int)) = b at *
    go_enter Tryz.func69, Tryz.ntmps69
    go_wp2_with (go_at_call 31; (refine HC.out.mono ?_); rintro e w' ⟨rfl, q, rfl⟩)
    go_ret
    exact ⟨ret_bool HZ.out.symm, below_drewN (Below.refl _ _) _⟩
  · rw [if_neg h, decide_eq_true (by omega : 0 ≤ l)] at HC
    by_cases h2 : l = (r : Int)
    · have HZ : Hid (decide (l = (r : Int)) = true) := Lib.hid (decide_eq_true h2)
      have d1 : (l == (r : Int)) = true := by simpa using h2
      clear h h2
      generalize decide (l = (r : Int)) = b at *
      go_enter Tryz.func69, Tryz.ntmps69
      go_wp2_with (go_at_call 31; (refine HC.out.mono ?_); rintro e w' ⟨rfl, q, rfl⟩)
      go_ret
      exact ⟨ret_bool HZ.out.symm, below_drewN (Below.refl _ _) _⟩
    · have HZ : Hid (decide (l = (r : Int)) = false) := Lib.hid (decide_eq_false h2)
      have d1 : (l == (r : Int)) = false := by simpa using h2
      clear h h2
      generalize decide (l = (r : Int)) = b at *
      go_enter Tryz.func69, Tryz.ntmps69
      go_wp2_with (go_at_call 31; (refine HC.out.mono ?_); rintro e w' ⟨rfl, q, rfl⟩)
      go_ret
      exact ⟨ret_bool HZ.out.symm, below_drewN (Below.refl _ _) _⟩
end Go.Proofs
