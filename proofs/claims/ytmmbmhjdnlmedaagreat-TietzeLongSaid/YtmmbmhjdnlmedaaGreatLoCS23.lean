/- The reference's tietze.Eliminate; The reference's shorter; The reference's shortening step; The reference's Shorten; The reference's eliminated; The reference's Simplify; Word lists as they are laid by literals; tietze's functions at given arguments. -/
import Derived.Test.YtmmbmhjdnlmedaaGreatLoCS22
import Derived.Test.YtmmbmhjdnlmedaaGreatLoCS14
import Derived.Deep.CutRange
import Derived.Deep.CutBlock
import Derived.Test.YtmmbmhjdnlmedaaGreatLoCS13
import Derived.Test.YtmmbmhjdnlmedaaGreatLoCS16
import Derived.Test.YtmmbmhjdnlmedaaGreatLoCS20
import Derived.Test.YtmmbmhjdnlmedaaGreatLoCS18
namespace Go.Proofs
open Go.RowKit Go.Shelf Go.Lib Go.Sort Go.Proofs.Ct Go.Proofs.Tz Go.Maps
/-- the first relators but one -/
def erT (rels : List (List Int)) (rel i : Nat) : List (List Int) := (rels.take i).eraseIdx rel
theorem erT_eq {rels : List (List Int)} {rel : Nat} (h : rel < rels.length) : erT rels rel (rel + 1) = erT rels rel rel := by
  unfold erT
  have l1 : (rels.take rel).length = rel := by rw [List.length_take]; omega
  rw [List.take_succ_eq_append_getElem h, List.eraseIdx_append_of_length_le (by omega), l1, Nat.sub_self, List.eraseIdx_cons_zero, List.append_nil]
  exact (List.eraseIdx_of_length_le (by omega)).symm
theorem erT_ne {rels : List (List Int)} {rel i : Nat} (h : i < rels.length) (hn : i ≠ rel) : erT rels rel (i + 1) = erT rels rel i ++ [rels.getD i []] := by
  unfold erT
  have l1 : (rels.take i).length = i := by rw [List.length_take]; omega
  rw [List.take_succ_eq_append_getElem h]
  rcases Nat.lt_or_ge rel i with h1 | h1
  · rw [List.eraseIdx_append_of_lt_length (by omega)]
    simp [List.getD_eq_getElem?_getD, h]
  · rw [List.eraseIdx_of_length_le (by rw [List.length_append, l1]; simp; omega), List.eraseIdx_of_length_le (by omega)]
    simp [List.getD_eq_getElem?_getD, h]
theorem erT_all {rels : List (List Int)} {rel : Nat} : erT rels rel rels.length = rels.eraseIdx rel := by unfold erT; rw [List.take_length]
theorem erT_len {rels : List (List Int)} {rel i : Nat} : (erT rels rel i).length ≤ i := by
  unfold erT
  have := List.length_eraseIdx_le (rels.take i) rel
  rw [List.length_take] at this
  omega
theorem mem_erase {rels : List (List Int)} {rel i : Nat} (h : i < rels.length) (hn : i ≠ rel) : rels.getD i [] ∈ rels.eraseIdx rel := by
  have h1 : rels.getD i [] ∈ erT rels rel (i + 1) := by rw [erT_ne h hn]; simp
  unfold erT at h1
  have h3 : rels.eraseIdx rel = (rels.take (i + 1) ++ rels.drop (i + 1)).eraseIdx rel := by rw [List.take_append_drop]
  rw [h3]
  have l1 : (rels.take (i + 1)).length = i + 1 := by rw [List.length_take]; omega
  rcases Nat.lt_or_ge rel (i + 1) with h2 | h2
  · rw [List.eraseIdx_append_of_lt_length (by omega)]
    exact List.mem_append_left _ h1
  · rw [List.eraseIdx_append_of_length_le (by omega)]
    rw [List.eraseIdx_of_length_le (by omega)] at h1
    exact List.mem_append_left _ h1
theorem sbL_fail {G l : List (List Int)} {z : List Int} (hz : z ∈ l) (h : 4000 < (sbW G z).length) : sbL G l = none := by
  unfold sbL
  rw [if_neg]
  intro h1
  have := List.all_eq_true.1 h1 z hz
  simp at this
  omega
theorem sbL_good2 {G l : List (List Int)} (h : ∀ x ∈ l.map (sbW G), x.length ≤ 4000) : sbL G l = some (l.map (sbW G)) := by
  unfold sbL
  rw [if_pos]
  rw [List.all_eq_true]
  intro z hz
  exact decide_eq_true (h _ (List.mem_map_of_mem hz))
theorem setRow_ne {W : World} {b q : Nat} {cs : Array Value} (h : q ≠ b) : (W.setRow b cs).heap[q]? = W.heap[q]? := by
  show (W.heap.modify b _)[q]? = _
  rw [Array.getElem?_modify, if_neg fun e => h e.symm]
theorem TabI.of_out {F : Nat → Prop} {e : TypeId} {w0 w : World} {v : Value} {l : List (List Int)} (h : OutSt e F w0 w v l) : TabI w0.heap.size w.heap.size w v l :=
  TabS.of_own h.out (fun r hr => ⟨(h.out.block r hr).1, (Array.getElem?_eq_some_iff.1 (h.out.block r hr).2.choose_spec).1⟩) fun k hk => ⟨(h.fs k hk).1, (h.fs k hk).2.1⟩
set_option maxRecDepth 100000 in
set_option maxHeartbeats 4000000 in
/-- the image is short enough -/
theorem elim10_made (w : World) (vr : Value) (n : Nat) (rels : List (List Int)) (rel gen k : Nat) (hR : Tab w vr rels) (hsm : ∀ j, (rels.getD j []).length ≤ 8000000) (he : presE n rels = 0) (hr : rel < rels.length) (hg : 1 ≤ gen ∧ gen ≤ n) (hn1 : n ≠ 1) (hon : onceW (rels.getD rel []) gen = some k) (hlong : (imgW (rels.getD rel []) k).length ≤ 1000) : Calls Tryz.prog 10 #[.agg #[.int .i64 (n : Int), vr], .int .i64 (rel : Int), .int .i64 (gen : Int)] w (RElimPost n rels rel gen w) := by
  obtain ⟨Ar, cr, rfl⟩ := Tab.form hR
  have H19 : Hid (∀ W, Tab W (.slice Ar rels.length cr) rels → Calls Tryz.prog 33 #[.agg #[.int .i64 (n : Int), .slice Ar rels.length cr]] W fun e w' => (∃ y, e = .returned (.tuple #[.int .i64 0, .int .i64 y])) ∧ Below W.heap.size W w') := Lib.hid fun W h => by
    have := pcheck79_any W _ (n : Int) rels h hsm
    unfold PresPost at this
    rw [he] at this
    exact this
  obtain ⟨gn, hgn, hg1, hg2, hln, hall⟩ := presE_good he
  obtain rfl : n = gn := by omega
  clear hgn
  obtain ⟨O, hOd⟩ : ∃ O, O = sbL (imgsW n gen (imgW (rels.getD rel []) k)) (rels.eraseIdx rel) := ⟨_, rfl⟩
  have hE : elimE n rels rel gen = elO n gen (imgW (rels.getD rel []) k) O := by
    unfold elimE
    rw [hon]
    simp only [if_neg hn1, if_neg (Nat.not_lt.2 hlong)]
    rw [hOd]
    cases sbL (imgsW n gen (imgW (rels.getD rel []) k)) (rels.eraseIdx rel) <;> rfl
  have HE := Lib.hid hE
  have HOD := Lib.hid hOd
  have HEO := Lib.hid (elim_ok he hr hg hn1 hon)
  have HALL : Hid (∀ i, i < rels.length → (rels.getD i []).length ≤ 4000 ∧ ∀ x ∈ rels.getD i [], Mild x ∧ x ≠ 0 ∧ x.natAbs ≤ n) := Lib.hid fun i hi => ⟨(hall i hi).2, fun x hx => ⟨mild_ok (by omega) (hall i hi).1 x hx, ((hall i hi).1 x hx).2.2, by have := (hall i hi).1 x hx; omega⟩⟩
  have HRM : Hid (rels.length ≤ 100) := Lib.hid hln
  have hmr : ∀ z ∈ rels.getD rel [], Mild z := mild_ok (by omega) (hall rel hr).1
  have HMR := Lib.hid hmr
  have hlr := (hall rel hr).2
  have hkr : k < (rels.getD rel []).length := once_lt hon
  have HOI : Hid (onceI (rels.getD rel []) gen = k) := Lib.hid (by unfold onceI; rw [hon])
  have HLONG := Lib.hid hlong
  have H22 : Hid (∀ W u (x : List Int), IntsAt W u x → (∀ z ∈ x, Mild z) → x.length ≤ 1000000 → Calls Tryz.prog 36 #[u] W fun e w'' => ∃ v, e = .returned v ∧ ((∃ A c, v = .slice A (invW x).length c ∧ IntsAt w'' v (invW x)) ∧ Below W.heap.size W w'')) := Lib.hid fun W u x h1 h2 h3 => (invert102_any W u x h1 h2 (by omega)).mono fun e w'' ⟨A, c, e1, h4, h5⟩ => ⟨_, e1, ⟨A, c, rfl, OwnI.ints h4 (Mild.fits fun z hz => mild_inv' h2 z (Ct.red_mem hz))⟩, h5⟩
  have H21 : Hid (∀ W u v (x y : List Int), IntsAt W u x → IntsAt W v y → (∀ z ∈ x, Mild z) → (∀ z ∈ y, Mild z) → x.length + y.length ≤ 1000000 → Calls Tryz.prog 35 #[u, v] W fun e w'' => ∃ v, e = .returned v ∧ ((∃ A c, v = .slice A (mulW x y).length c ∧ IntsAt w'' v (mulW x y)) ∧ Below W.heap.size W w'')) := Lib.hid fun W u v x y h1 h2 h3 h4 h5 => (mul101_any W u v x y h1 h2 h3 h4 (by omega)).mono fun e w'' ⟨A, c, e1, h6, h7⟩ => ⟨_, e1, ⟨A, c, rfl, OwnI.ints h6 (Mild.fits fun z hz => mild_app h3 h4 z (Ct.red_mem hz))⟩, h7⟩
  have HBN := Lib.hid (ElBox.new w n Ar cr rels.length)
  have HRR := Lib.hid hR
  have hr0 : (0 : Int) ≤ (rel : Int) := Int.natCast_nonneg _
  have hrl : (rel : Int) < (rels.length : Int) := by omega
  have hrd : decide ((rel : Int) < 0) = false := decide_eq_false (by omega)
  have hrd2 : decide ((rels.length : Int) ≤ (rel : Int)) = false := decide_eq_false (by omega)
  have hgd : decide ((gen : Int) < 1) = false := decide_eq_false (by omega)
  have hgd2 : decide ((n : Int) < (gen : Int)) = false := decide_eq_false (by omega)
  have hbn : ((n : Int) == 1) = false := beq_eq_false_iff_ne.2 (by omega)
  have hk0 : (0 : Int) ≤ (k : Int) := Int.natCast_nonneg _
  have hkd : decide ((k : Int) < 0) = false := decide_eq_false (by omega)
  clear hR he hE hn1 hon hall hmr hlong hOd
  have HIM : Hid (imgW (rels.getD rel []) k = if (rels.getD rel []).getD k 0 < 0 then invW (mulW (invW ((rels.getD rel []).take k)) (invW ((rels.getD rel []).drop (k + 1)))) else mulW (invW ((rels.getD rel []).take k)) (invW ((rels.getD rel []).drop (k + 1)))) := Lib.hid rfl
  have HLT : Hid (((rels.getD rel []).take k).length ≤ 1000000) := Lib.hid (by rw [List.length_take]; omega)
  have HLD : Hid (((rels.getD rel []).drop (k + 1)).length ≤ 1000000) := Lib.hid (by rw [List.length_drop]; omega)
  have HM1 : Hid (∀ z ∈ invW ((rels.getD rel []).take k), Mild z) := Lib.hid fun z hz => mild_inv' (fun y hy => HMR.out y (List.mem_of_mem_take hy)) z (Ct.red_mem hz)
  have HM2 : Hid (∀ z ∈ invW ((rels.getD rel []).drop (k + 1)), Mild z) := Lib.hid fun z hz => mild_inv' (fun y hy => HMR.out y (List.mem_of_mem_drop hy)) z (Ct.red_mem hz)
  have HL12 : Hid ((invW ((rels.getD rel []).take k)).length + (invW ((rels.getD rel []).drop (k + 1))).length ≤ 1000000) := Lib.hid (by
    have h1 := red_length (inv ((rels.getD rel []).take k))
    have h2 := red_length (inv ((rels.getD rel []).drop (k + 1)))
    rw [length_inv, List.length_take] at h1
    rw [length_inv, List.length_drop] at h2
    unfold invW
    omega)
  have HMV : Hid (∀ z ∈ mulW (invW ((rels.getD rel []).take k)) (invW ((rels.getD rel []).drop (k + 1))), Mild z) := Lib.hid fun z hz => mild_app HM1.out HM2.out z (Ct.red_mem hz)
  have HLV : Hid ((mulW (invW ((rels.getD rel []).take k)) (invW ((rels.getD rel []).drop (k + 1)))).length ≤ 1000000) := Lib.hid (by
    have h1 := red_length (invW ((rels.getD rel []).take k) ++ invW ((rels.getD rel []).drop (k + 1)))
    rw [List.length_append] at h1
    have := HL12.out
    unfold mulW
    omega)
  go_enter Tryz.func10, Tryz.ntmps10
  go_wp2_with ((with_reducible refine wpList_sel 6 ?_); refine wpList_val rfl (r_alloc40 rfl) ?_)
  generalize hw0 : (w.alloc (.cells #[.int .i64 (n : Int), .slice Ar rels.length cr] 24)).alloc (.cells zero40 24) = w0 at *
  have HBX := Lib.hid fun W (hb : Below w0.heap.size w0 W) => HBN.out.at_ hb
  have HB0 := Lib.hid HBN.out.below
  have HWS := Lib.hid HBN.out.size
  have HBP := Lib.hid HBN.out.arg
  have HR0 := Lib.hid (kept_tab.below HRR.out HB0.out)
  clear hw0 HRR
  go_wp2_with (first
    | ((with_reducible refine wpList_sel 21 ?_); refine wpList_val rfl (r_loadAt 24 (.tmp 3) _ _ rfl rfl (load40 HBP.out)) ?_)
    | (go_at_call 33; (with_reducible refine (H19.out w0 HR0.out).mono ?_); rintro e w1 ⟨⟨y, rfl⟩, hb⟩
       have HB1 := Lib.hid hb
       obtain ⟨⟨p1, q1⟩, x1, x2⟩ := HBX.out _ hb
       have hR1 := kept_tab.below HR0.out hb
       obtain ⟨A', c', e', t1, t2, t3⟩ := hR1.open_
       injection e' with e1 _ e3
       subst e1 e3
       obtain ⟨b, o, rfl, hcc⟩ := t3 (by omega)
       obtain ⟨u, hu, hI⟩ := hcc rel hr
       obtain ⟨Au, cu, rfl, u1, u2, u3⟩ := hI.open_
       obtain ⟨bu, ou, rfl, hcu⟩ := u3 (by omega)
       have HCU := Lib.hid (hcu k hkr)
       have HI := Lib.hid hI
       obtain ⟨A1, hs1, hi1⟩ := ints_cut hI (k := 0) (h := k) (by omega) (by omega)
       obtain ⟨A2, hs2, hi2⟩ := ints_cut hI (k := k + 1) (h := (rels.getD rel []).length) (by omega) (Nat.le_refl _)
       rw [List.take_length] at hi2
       rw [List.drop_zero] at hi1
       simp only [Nat.sub_zero] at hs1 hi1
       have hkc : k ≤ cu := by omega
       have hkx : k + 1 ≤ (rels.getD rel []).length := hkr
       have HS1 := Lib.hid hs1
       have HS2 := Lib.hid hs2
       have HI1 := Lib.hid hi1
       have HI2 := Lib.hid hi2
       have HO := Lib.hid (once34_b w1 _ _ (gen : Int) (by omega) hI)
       have HX2 := Lib.hid x2
       clear x1 x2 hb hR1 t1 t2 t3 hcc hI u2 u3 hcu hs1 hs2 hi1 hi2
       generalize (rels.getD rel []).length = lx at *)
    | (go_at_call 34
       refine HO.out.mono ?_
       rintro e w2 ⟨rfl, hb2⟩
       rw [HOI.out]
       have HB2 := Lib.hid (HB1.out.trans (hb2.mono HB1.out.size))
       have HB12 := Lib.hid hb2
       obtain ⟨⟨p2, q2⟩, x1, x2⟩ := HBX.out _ HB2.out
       clear p1 q1 hu hb2 HO x1 x2))
  refine (wpIn_wide (n := 3)).1 ?_
  refine wpIn_region_all (by kernel_rfl) 11 rfl (fun i => if i < 10 then some (65 + i) else some 13) (lex_of (by kernel_rfl)) (fun _ W => Below w1.heap.size w1 W)
    (fun i v W => (([.eq (.slice (some ⟨bu, ou, none⟩) lx cu), .eq (.int .i64 (k : Int)), .eq (.slice A1 k cu), .ints (invW ((rels.getD rel []).take k)), .eq (.slice (some ⟨bu, ou, none⟩) lx cu), .eq (.int .i64 (k : Int)), .eq (.int .i64 ((k + 1 : Nat) : Int)), .eq (.slice A2 (lx - (k + 1)) (cu - (k + 1))), .ints (invW ((rels.getD rel []).drop (k + 1))), .ints (mulW (invW ((rels.getD rel []).take k)) (invW ((rels.getD rel []).drop (k + 1)))), .ints (mulW (invW ((rels.getD rel []).take k)) (invW ((rels.getD rel []).drop (k + 1))))] : List SlE).getD i (.eq undef)).holds v W)
    (fun _ W W' => Below W.heap.size W W') (dm_inj (by kernel_rfl)) (fun i j v W W' _ _ _ h => SlE.keep h) (dm_lt (n := 152) (by kernel_rfl)) (HB12.out.trans ((Below.refl w2.heap.size w2).drew.mono HB12.out.size)) ?_ ?_
  · intro ls q o a w3 hq ho hS hls hcl hP hpre
    have hcases : q = 0 ∨ q = 1 ∨ q = 2 ∨ q = 3 ∨ q = 4 ∨ q = 5 ∨ q = 6 ∨ q = 7 ∨ q = 8 ∨ q = 9 ∨ q = 10 := by
      have : q < 11 := hq
      omega
    rcases hcases with rfl | rfl | rfl | rfl | rfl | rfl | rfl | rfl | rfl | rfl | rfl
    · obtain rfl := Option.some.inj ho
      exact wpOpIn_of rfl rfl (wpW_val (r_move (.tmp 11) rfl (hP.out 11 (dm_out (by kernel_rfl)))) ⟨_, rfl, hS, Below.refl _ _, (fun h => by simp at h), rfl⟩)
    · obtain rfl := Option.some.inj ho
      exact wpOpIn_of rfl rfl (wpW_val (r_move (.tmp 12) rfl (hP.out 12 (dm_out (by kernel_rfl)))) ⟨_, rfl, hS, Below.refl _ _, (fun h => by simp at h), rfl⟩)
    · obtain rfl := Option.some.inj ho
      exact wpOpIn_of rfl rfl (wpW_val ((run_sl_hi under24w size24w (.tmp 65) (.tmp 66) (some ⟨bu, ou, none⟩) lx cu k rfl (hpre ⟨0, .data⟩ (by simp) rfl).2 (hpre ⟨1, .data⟩ (by simp) rfl).2 hkc).trans (congrArg (fun v => Result.ok (Next.value v) _) HS1.out)) ⟨_, rfl, hS, Below.refl _ _, (fun h => by simp at h), rfl⟩)
    · obtain rfl := Option.some.inj ho
      exact wpOpIn_of rfl rfl (wpW_call (r_call1 (.tmp 67) _ _ rfl (hpre ⟨2, .data⟩ (by simp) rfl).2 call36) (H22.out w3 _ _ (HI1.out.below hS) (fun z hz => HMR.out z (List.mem_of_mem_take hz)) HLT.out) fun v w4 hR => ⟨v, rfl, hS.trans (hR.2.mono hS.size), hR.2, (fun h => by simp at h), hR.1⟩)
    · obtain rfl := Option.some.inj ho
      exact wpOpIn_of rfl rfl (wpW_val (r_move (.tmp 11) rfl (hP.out 11 (dm_out (by kernel_rfl)))) ⟨_, rfl, hS, Below.refl _ _, (fun h => by simp at h), rfl⟩)
    · obtain rfl := Option.some.inj ho
      exact wpOpIn_of rfl rfl (wpW_val (r_move (.tmp 12) rfl (hP.out 12 (dm_out (by kernel_rfl)))) ⟨_, rfl, hS, Below.refl _ _, (fun h => by simp at h), rfl⟩)
    · obtain rfl := Option.some.inj ho
      exact wpOpIn_of rfl rfl (wpW_val (r_add1 (.tmp 70) k rfl (hpre ⟨5, .data⟩ (by simp) rfl).2 (by omega)) ⟨_, rfl, hS, Below.refl _ _, (fun h => by simp at h), rfl⟩)
    · obtain rfl := Option.some.inj ho
      exact wpOpIn_of rfl rfl (wpW_val ((run_sl_lo under24w size24w (.tmp 69) (.tmp 71) (some ⟨bu, ou, none⟩) lx cu (k + 1) rfl (hpre ⟨4, .data⟩ (by simp) rfl).2 (hpre ⟨6, .data⟩ (by simp) rfl).2 hkx).trans (congrArg (fun v => Result.ok (Next.value v) _) HS2.out)) ⟨_, rfl, hS, Below.refl _ _, (fun h => by simp at h), rfl⟩)
    · obtain rfl := Option.some.inj ho
      exact wpOpIn_of rfl rfl (wpW_call (r_call1 (.tmp 72) _ _ rfl (hpre ⟨7, .data⟩ (by simp) rfl).2 call36) (H22.out w3 _ _ (HI2.out.below hS) (fun z hz => HMR.out z (List.mem_of_mem_drop hz)) HLD.out) fun v w4 hR => ⟨v, rfl, hS.trans (hR.2.mono hS.size), hR.2, (fun h => by simp at h), hR.1⟩)
    · obtain rfl := Option.some.inj ho
      obtain ⟨B1, d1, e1, g1⟩ := (hpre ⟨3, .data⟩ (by simp) rfl).2
      obtain ⟨B2, d2, e2, g2⟩ := (hpre ⟨8, .data⟩ (by simp) rfl).2
      exact wpOpIn_of rfl rfl (wpW_call (r_call2 (.tmp 68) (.tmp 73) _ _ _ rfl rfl rfl call35) (H21.out w3 _ _ _ _ g1 g2 HM1.out HM2.out HL12.out) fun v w4 hR => ⟨v, rfl, hS.trans (hR.2.mono hS.size), hR.2, (fun h => by simp at h), hR.1⟩)
    · obtain rfl := Option.some.inj ho
      exact wpOpIn_of rfl rfl (wpW_val (r_assign (.tmp 74) rfl rfl) ⟨_, rfl, hS, Below.refl _ _, (fun h => by simp at h), (hpre ⟨9, .data⟩ (by simp) rfl).2⟩)
  · intro ls a w3 hall hS hP hsl
    obtain ⟨A5, c5, e5, g5⟩ := hsl 10 (by decide)
    obtain ⟨vs, hvs, hfr⟩ := hP.frame 152 rfl
    have e6 : vs 13 = .slice A5 (mulW (invW ((rels.getD rel []).take k)) (invW ((rels.getD rel []).drop (k + 1)))).length c5 := (hvs 13).trans e5
    rw [e5] at g5
    have HV0 := Lib.hid g5
    have HBS := Lib.hid hS
    have HBW := Lib.hid (HB1.out.trans (hS.mono HB1.out.size))
    obtain ⟨-, x1, x2⟩ := HBX.out _ HBW.out
    have HX3 := Lib.hid x2
    have hcz := (HBS.out.cell (p := ⟨bu, ou + k, none⟩) (World.block_lt_of_cell? _ _ HCU.out)).trans HCU.out
    clear hsl hP hall hvs p2 q2 g5 hS x1 x2 e5
    subst hfr
    simp only [List.range, List.range.loop, List.map_cons, List.map_nil, List.any_cons, List.any_nil, Nat.reduceAdd, Nat.reduceBEq, Nat.reduceLT, Option.some_beq_some, Bool.or_false, if_true, if_false, List.getD_cons_zero, List.getD_cons_succ, Bool.or_true, Bool.false_eq_true]
    rw [e6]
    generalize mulW (invW ((rels.getD rel []).take k)) (invW ((rels.getD rel []).drop (k + 1))) = V0 at *
    generalize (rels.getD rel []).getD k 0 = z at *
    have hv0 : (0 : Int) ≤ (V0.length : Int) := Int.natCast_nonneg _
    have hv1 : (V0.length : Int) ≤ 1000000 := by have := HLV.out; omega
    have HMW : Hid (∀ y ∈ imgW (rels.getD rel []) k, Mild y) := Lib.hid (by
      rw [HIM.out]
      split
      · exact fun y hy => mild_inv' HMV.out y (Ct.red_mem hy)
      · exact HMV.out)
    have HIL : Hid (∀ j, ((imgsW n gen (imgW (rels.getD rel []) k)).getD j []).length ≤ 1000) := Lib.hid (HEO.out.len HLONG.out)
    have HIMD := Lib.hid HEO.out.mild
    have HPR := Lib.hid HEO.out.pres
    have HRS := Lib.hid HEO.out.rest
    have HMANY := Lib.hid HEO.out.many
    clear HEO
    generalize imgW (rels.getD rel []) k = V at *
    have hV0 : (0 : Int) ≤ (V.length : Int) := Int.natCast_nonneg _
    have hV1 : (V.length : Int) ≤ 1000 := by have := HLONG.out; omega
    have hvd : decide (1000 < (V.length : Int)) = false := decide_eq_false (by omega)
    go_upto_if 79 with fail
    go_cut [13] from 79 (fun z13 wx => ∃ A c, z13 = .slice A V.length c ∧ Hid (IntsAt wx (.slice A V.length c) V ∧ Below w1.heap.size w1 wx))
    case first =>
      by_cases hz : z < 0
      · have HVE : Hid (V = invW V0) := Lib.hid (by rw [HIM.out, if_pos hz])
        have HV := Lib.hid (H22.out w3 _ V0 HV0.out HMV.out HLV.out)
        go_wp2_with (go_at_call 36; (refine HV.out.mono ?_); rintro e w4 ⟨v, rfl, ⟨A6, c6, rfl, h6⟩, hb4⟩)
        go_meet
        exact ⟨A6, c6, by rw [HVE.out], Lib.hid ⟨by rw [HVE.out]; exact h6, HBS.out.trans (hb4.mono HBS.out.size)⟩⟩
      · have HVE : Hid (V = V0) := Lib.hid (by rw [HIM.out, if_neg hz])
        go_wp2_with fail
        go_meet
        exact ⟨A5, c5, by rw [HVE.out], Lib.hid ⟨by rw [HVE.out]; exact HV0.out, HBS.out⟩⟩
    case rest =>
      obtain ⟨A6, c6, rfl, HC6⟩ := hcut
      have HBC := Lib.hid (HB1.out.trans (HC6.out.2.mono HB1.out.size))
      obtain ⟨⟨p3, q3⟩, -⟩ := HBX.out _ HBC.out
      have hn0 : (0 : Int) ≤ (n : Int) := Int.natCast_nonneg _
      have hn16 : (n : Int) ≤ 16 := by omega
      have hn1 : (1 : Int) ≤ (n : Int) := by omega
      have hgn : (gen : Int) ≤ (n : Int) := by omega
      have hg1' : (1 : Int) ≤ (gen : Int) := by omega
      have HGN : Hid (1 ≤ gen ∧ gen ≤ n ∧ n ≤ 16) := Lib.hid ⟨by omega, by omega, by omega⟩
      have HPR2 : Hid (∀ l, O = some l → lenL l ≤ 4000 → presE ((n : Int) - 1) l = 0) := Lib.hid fun l hl h => by
        have := HPR.out l (by rw [← HOD.out]; exact hl) h
        rwa [show ((n - 1 : Nat) : Int) = (n : Int) - 1 by omega] at this
      have HIMT : Hid (∀ j, j < n → (imgsW n gen V).take (j + 1) = (imgsW n gen V).take j ++ [if j + 1 = gen then lowW gen V else lowW gen [(j : Int) + 1]]) := Lib.hid fun j hj => by
        have hj' : j < (imgsW n gen V).length := by rw [length_imgs]; exact hj
        rw [List.take_succ_eq_append_getElem hj']
        have := imgs_get (gen := gen) (v := V) hj
        rw [List.getD_eq_getElem?_getD, List.getElem?_eq_getElem hj'] at this
        have h2 : (imgsW n gen V)[j] = _ := this
        rw [h2]
      have HIML : Hid ((imgsW n gen V).length = n) := Lib.hid (length_imgs _ _ _)
      clear HPR HRS HV0 HIM
      go_wp2_with fail
      go_loopw [14, 15] (fun vm i wr => ∃ (j : Nat) (A : Option Addr) (c : Nat) (F : Nat → Prop), j ≤ n ∧ i = .int .i64 ((j : Int) + 1) ∧ vm = .slice A j c ∧ Hid (OutSt 36 F wc wr (.slice A j c) ((imgsW n gen V).take j))) (fun _ i _ => n + 1 - (intOf i).toNat)
      case atStart => exact ⟨0, none, 0, _, Nat.zero_le _, rfl, rfl, Lib.hid (OutSt.nil 36 (Below.refl _ _))⟩
      case round =>
        obtain ⟨j, A, c, F, hj, rfl, rfl, HS⟩ := hrel
        have hj0 : (0 : Int) ≤ (j : Int) := Int.natCast_nonneg _
        obtain ⟨⟨p4, q4⟩, -⟩ := HBX.out wr (HBC.out.trans (HS.out.below.mono HBC.out.size))
        clear p3 q3
        by_cases hlt : j < n
        · have hlt' : (j : Int) + 1 ≤ (n : Int) := by omega
          have HTK := Lib.hid (HIMT.out j hlt)
          have HTL : Hid (((imgsW n gen V).take j).length = j) := Lib.hid (by rw [List.length_take, HIML.out]; omega)
          by_cases hjg : j + 1 = gen
          · have e1 : ((j : Int) + 1 == (gen : Int)) = true := by rw [beq_iff_eq]; omega
            have HW := Lib.hid (lower37_any wr _ V (gen : Int) (by omega) (HC6.out.1.below HS.out.below) HMW.out (by omega))
            have HF : Hid (Fits (lowW gen V)) := Lib.hid (Mild.fits fun y hy => HIMD.out j y (by rw [imgs_get hlt, if_pos hjg]; exact hy))
            rw [if_pos hjg] at HTK
            unfold OwnPost at HW
            clear hjg
            go_wp2_with fail
            refine HW.out.mono ?_
            rintro e w6 ⟨A7, c7, rfl, ho, hb⟩
            obtain ⟨A8, c8, w8, hr8, hS8⟩ := (HS.out.with_row hb ho).done (by decide) Tryz.underlying22 info25p HF.out (by rw [HTL.out]; omega)
            rw [HTL.out] at hr8 hS8
            rw [← HTK.out] at hS8
            have HR8 := Lib.hid hr8
            have HS8 := Lib.hid hS8
            clear hr8 hS8 ho hb HS
            go_wp2_with ((with_reducible refine wpList_sel 100 ?_); refine wpList_val rfl (r_app (.tmp 95) (.tmp 99) 22 rfl rfl rfl HR8.out) ?_)
            go_roundw
            case rel => exact ⟨j + 1, A8, c8, _, by omega, by go_num, rfl, HS8⟩
            case measure => simp [intOf]; omega
          · have e1 : ((j : Int) + 1 == (gen : Int)) = false := by rw [beq_eq_false_iff_ne]; omega
            have hal : Below wr.heap.size wr (wr.alloc (.cells #[.int .i64 ((j : Int) + 1)] 3)) := (Below.refl _ _).alloc (Nat.le_refl _) _
            have hmj : ∀ y ∈ [(j : Int) + 1], Mild y := fun y hy => by rw [List.mem_singleton.1 hy]; unfold Mild; omega
            have HW := Lib.hid (lower37_any (wr.alloc (.cells #[.int .i64 ((j : Int) + 1)] 3)) _ [(j : Int) + 1] (gen : Int) (by omega) (ints_one wr ((j : Int) + 1) (by omega)) hmj (by simp))
            have HF : Hid (Fits (lowW gen [(j : Int) + 1])) := Lib.hid (Mild.fits fun y hy => HIMD.out j y (by rw [imgs_get hlt, if_neg hjg]; exact hy))
            have HS1 := Lib.hid (HS.out.below' hal)
            rw [if_neg hjg] at HTK
            unfold OwnPost at HW
            clear hjg hal hmj
            go_wp2_with fail
            refine HW.out.mono ?_
            rintro e w6 ⟨A7, c7, rfl, ho, hb⟩
            obtain ⟨A8, c8, w8, hr8, hS8⟩ := (HS1.out.with_row hb ho).done (by decide) Tryz.underlying22 info25p HF.out (by rw [HTL.out]; omega)
            rw [HTL.out] at hr8 hS8
            rw [← HTK.out] at hS8
            have HR8 := Lib.hid hr8
            have HS8 := Lib.hid hS8
            clear hr8 hS8 ho hb HS HS1
            go_wp2_with ((with_reducible refine wpList_sel 107 ?_); refine wpList_val rfl (r_app (.tmp 101) (.tmp 106) 22 rfl rfl rfl HR8.out) ?_)
            go_roundw
            case rel => exact ⟨j + 1, A8, c8, _, by omega, by go_num, rfl, HS8⟩
            case measure => simp [intOf]; omega
        · obtain rfl : n = j := by omega
          rw [List.take_of_length_le (by rw [HIML.out]; exact Nat.le_refl _)] at HS
          have HW6 := Lib.hid (HBC.out.trans (HS.out.below.mono HBC.out.size))
          obtain ⟨w6, hw6⟩ : ∃ w6, w6 = wr := ⟨_, rfl⟩
          rw [← hw6] at HS HW6 p4 q4 ⊢
          clear hw6 HIMT
          have HG := Lib.hid HS.out
          obtain ⟨w7, hw7⟩ : ∃ w7, w7 = w6.alloc (.cells #[.int .i64 ((n : Int) - 1), .slice none 0 0] 24) := ⟨_, rfl⟩
          have hb7 : Below w6.heap.size w6 w7 := by rw [hw7]; exact (Below.refl _ _).alloc (Nat.le_refl _) _
          obtain ⟨pb, hpb⟩ : ∃ pb, pb = w6.heap.size := ⟨_, rfl⟩
          have hx7 : w7.heap[pb]? = some (.cells #[.int .i64 ((n : Int) - 1), .slice none 0 0] 24 (0, 0)) := by rw [hw7, hpb]; exact heap_alloc_new w6 _
          have HPS0 : Hid (PS pb pb (fun _ => False) (fun _ => False) w7 ((n : Int) - 1) (.slice none 0 0) (.slice none 0 0) [] w7) := Lib.hid ⟨hx7, Nat.le_refl _, (Array.getElem?_eq_some_iff.1 hx7).1, Below.refl _ _, AgX.refl _ _, ⟨[], World.ownsRow_nil _ _ _ _, RowsF.nil _ _⟩, fun k hk => hk.elim, fun r hr => by cases hr⟩
          have HPBE := Lib.hid hpb
          have HB67 : Hid (Below pb w6 w7) := Lib.hid (by rw [hpb]; exact hb7)
          have HGI : Hid (TabI wc.heap.size pb w6 (.slice A n c) (imgsW n gen V)) := Lib.hid (by rw [hpb]; exact TabI.of_out HG.out)
          have HB6 : Hid (Below w.heap.size w w6) := Lib.hid (HB0.out.trans (HW6.out.mono HB0.out.size))
          have HLO : Hid (w.heap.size + 2 ≤ wc.heap.size ∧ wc.heap.size ≤ pb) := Lib.hid ⟨by have h1 := HBC.out.size; have h3 := HWS.out; omega, by rw [hpb]; exact HG.out.below.size⟩
          clear hx7 HS
          go_wp2_with fail
          rw [← hw7, ← hpb]
          clear hb7 hw7 hpb
          have HRT : Hid (∀ W, Below pb w7 W → ∀ i, i < rels.length → ∃ Au cu, W.cell? ⟨b, o + i, none⟩ = some (.slice Au (rels.getD i []).length cu) ∧ IntsAt W (.slice Au (rels.getD i []).length cu) (rels.getD i [])) := Lib.hid fun W h i hi => by
            have h6 : Below w6.heap.size w6 W := by rw [← HPBE.out]; exact HB67.out.trans h
            obtain ⟨A', c', e', -, -, hcc⟩ := LAt.open_ (kept_tab.below HR0.out (HW6.out.trans (h6.mono HW6.out.size)))
            obtain ⟨rfl, -, rfl⟩ := Value.slice.inj e'
            obtain ⟨b', o', e2, hc⟩ := hcc (by omega)
            injection e2 with e2
            injection e2 with e3 e4
            subst e3 e4
            obtain ⟨u, hu, hv⟩ := hc i hi
            obtain ⟨Au, cu, rfl, -, -, -⟩ := hv.open_
            exact ⟨Au, cu, hu, hv⟩
          have HPX : Hid (∀ W, Below pb w7 W → ((W.cell? ⟨w.heap.size, 0, none⟩ = some (.int .i64 (n : Int)) ∧ W.cell? ⟨w.heap.size, 1, none⟩ = some (.slice (some ⟨b, o, none⟩) rels.length cr)) ∧ W.heap[w.heap.size + 1]? = some (.cells zero40 24 (0, 0))) ∧ Below w.heap.size w W) := Lib.hid fun W h => by
            have h6 : Below w6.heap.size w6 W := by rw [← HPBE.out]; exact HB67.out.trans h
            obtain ⟨h1, -, h2⟩ := HBX.out W (HW6.out.trans (h6.mono HW6.out.size))
            exact ⟨⟨h1, h2⟩, HB6.out.trans (h6.mono HB6.out.size)⟩
          have HGT : Hid (∀ W, Below pb w7 W → TabI wc.heap.size pb W (.slice A n c) (imgsW n gen V)) := Lib.hid fun W h => HGI.out.below (HB67.out.trans h) (Nat.le_refl _)
          have hrl9 : (rels.length : Int) ≤ 100 := by have := HRM.out; omega
          have hrl8 : (0 : Int) ≤ (rels.length : Int) := Int.natCast_nonneg _
          clear HBX HB6 HW6 HG HGI HR0 HBC p4 q4
          go_loopw [7, 8, 17, 18, 19] (fun _ _ i _ _ wr => ∃ (k : Nat) (A : Option Addr) (c : Nat) (F : Nat → Prop), i = .int .i64 (k : Int) ∧ k ≤ rels.length ∧ Hid ((∀ x ∈ (erT rels rel k).map (sbW (imgsW n gen V)), x.length ≤ 4000) ∧ PS pb pb (fun _ => False) F w7 ((n : Int) - 1) (.slice A (erT rels rel k).length c) (.slice A (erT rels rel k).length c) ((erT rels rel k).map (sbW (imgsW n gen V))) wr)) (fun _ _ i _ _ _ => rels.length - (intOf i).toNat)
          case atStart => exact ⟨0, none, 0, _, rfl, Nat.zero_le _, Lib.hid ⟨fun x hx => by simp [erT] at hx, by simp [erT]; exact HPS0.out⟩⟩
          case round =>
            clear HPS0
            obtain ⟨i, A5, c5, F, rfl, hi, HI⟩ := hrel
            have hi0 : (0 : Int) ≤ (i : Int) := Int.natCast_nonneg _
            obtain ⟨⟨⟨x1, x2⟩, x3⟩, x4⟩ := HPX.out wr HI.out.2.below
            have HX3 := Lib.hid x3
            have HB4 := Lib.hid x4
            clear x3 x4
            by_cases hil : i < rels.length
            · have hil' : (i : Int) < (rels.length : Int) := by omega
              by_cases hir : i = rel
              · have e1 : ((i : Int) == (rel : Int)) = true := by rw [hir]; simp
                have HER : Hid (erT rels rel (i + 1) = erT rels rel i) := Lib.hid (by rw [hir]; exact erT_eq hr)
                clear hir
                go_wp2_with fail
                go_roundw
                case rel => exact ⟨i + 1, A5, c5, F, by go_num, by omega, by rw [HER.out]; exact HI⟩
                case measure => simp [intOf]; omega
              · have e1 : ((i : Int) == (rel : Int)) = false := by rw [beq_eq_false_iff_ne]; omega
                obtain ⟨Au, cu, x5, hiu⟩ := HRT.out wr HI.out.2.below i hil
                have HSUB := Lib.hid (subst38_ok wr _ (.slice A n c) (rels.getD i []) (imgsW n gen V) hiu (HGT.out wr HI.out.2.below |>.tab) (HALL.out i hil).1 (fun x hx => by rw [HIML.out]; exact (HALL.out i hil).2 x hx) HIMD.out HIL.out)
                have HEN : Hid (erT rels rel (i + 1) = erT rels rel i ++ [rels.getD i []]) := Lib.hid (erT_ne hil hir)
                have HFL : Hid (4000 < (sbW (imgsW n gen V) (rels.getD i [])).length → O = none) := Lib.hid fun h => by rw [HOD.out]; exact sbL_fail (mem_erase hil hir) h
                have HLE : Hid ((erT rels rel i).length ≤ 100) := Lib.hid (by have := erT_len (rels := rels) (rel := rel) (i := i); have := HRM.out; omega)
                have HFI : Hid (Fits (sbW (imgsW n gen V) (rels.getD i []))) := Lib.hid (Mild.fits (sbTo_mild HIMD.out _ _))
                generalize (rels.getD i []).length = lu at *
                clear hir hiu
                unfold SubPost at HSUB
                by_cases hlong2 : (sbW (imgsW n gen V) (rels.getD i [])).length ≤ 4000
                · simp only [if_pos hlong2] at HSUB
                  have HL2 := Lib.hid hlong2
                  have HMA : Hid (∀ x ∈ (erT rels rel (i + 1)).map (sbW (imgsW n gen V)), x.length ≤ 4000) := Lib.hid (by
                    rw [HEN.out, List.map_append]
                    intro x hx
                    rcases List.mem_append.1 hx with h | h
                    · exact HI.out.1 x h
                    · rw [List.map_singleton, List.mem_singleton] at h
                      rw [h]; exact HL2.out)
                  go_wp2_with fail
                  refine HSUB.out.mono ?_
                  rintro e w9 ⟨⟨A9, c9, rfl, ho⟩, hb⟩
                  clear x1 x2 x5
                  have HP9 := HI.out.2.below' hb
                  have HW9 : PSw F w7 (.slice A9 (sbW (imgsW n gen V) (rels.getD i [])).length c9) (sbW (imgsW n gen V) (rels.getD i [])) w9 := ⟨owns_base ho HI.out.2.below.size, fun r hr hF => by
                    have h1 := (owns_block ho r hr).1
                    have h2 := (HI.out.2.fs r hF).2.1
                    omega⟩
                  obtain ⟨A3, c3, W3, hr3, hP3, -⟩ := HP9.push HW9 HFI.out (by rw [List.length_map]; have := HLE.out; omega)
                  rw [List.length_map] at hr3 hP3
                  have x2 := (cell_of2 HP9.box).2
                  have x3 := (cell_of2 hP3.box).2
                  have x4 := frozen_row hP3.box 1
                  have hP4 := hP3.put (k := 1) (z := .slice A3 ((erT rels rel i).length + 1) c3) rfl
                  have HLN9 : Hid ((erT rels rel (i + 1)).length = (erT rels rel i).length + 1) := Lib.hid (by rw [HEN.out, List.length_append]; rfl)
                  have hME : (erT rels rel i).map (sbW (imgsW n gen V)) ++ [sbW (imgsW n gen V) (rels.getD i [])] = (erT rels rel (i + 1)).map (sbW (imgsW n gen V)) := by rw [HEN.out, List.map_append]; rfl
                  rw [hME] at hP4
                  have HP4 := Lib.hid hP4
                  have HR3 := Lib.hid hr3
                  clear hr3 hP3 hP4 HP9 HW9 hME ho hb HI HEN
                  generalize (sbW (imgsW n gen V) (rels.getD i [])).length = ls at *
                  go_wp2_with ((with_reducible refine wpList_sel 139 ?_); refine wpList_val rfl (r_app (.tmp 136) (.tmp 138) 22 rfl rfl rfl HR3.out) ?_)
                  go_roundw
                  case rel => exact ⟨i + 1, A3, c3, _, by go_num, by omega, Lib.hid ⟨HMA.out, by rw [HLN9.out]; exact HP4.out⟩⟩
                  case measure => simp [intOf]; omega
                · simp only [if_neg hlong2] at HSUB
                  have HO := Lib.hid (HFL.out (by omega))
                  go_wp2_with fail
                  refine HSUB.out.mono ?_
                  rintro e w9 ⟨rfl, hb⟩
                  have HX9 := Lib.hid ((hb.block _ (Array.getElem?_eq_some_iff.1 HX3.out).1).trans HX3.out)
                  have HB9 := Lib.hid (HB4.out.trans (hb.mono HB4.out.size))
                  clear x1 x2 x5 hb
                  go_wp2_with ((with_reducible refine wpList_sel 134 ?_); refine wpList_val rfl (r_build40 rfl) ?_; refine wpList_skip rfl (r_store40 (.tmp 6) (.tmp 134) rfl (w.heap.size + 1) zero40 zero40 rfl rfl HX9.out rfl rfl zero40_one) ?_)
                  try simp only [Exit.inBlock, Exit.then]
                  exact bodyPost_ret (results_27 (p := 6) (q := 7) (r := 8) rfl _ _ (w.heap.size + 1) zero40 (.slice none 0 0) (.int .i64 4) rfl rfl rfl (setRow_heap _ _ _ _ _ _ HX9.out) rfl) rfl ⟨by rw [HE.out, HO.out]; rfl, below_setRow HB9.out (Nat.le_succ _) _⟩
            · obtain rfl : i = rels.length := by omega
              rw [erT_all] at HI
              obtain ⟨L, hL⟩ : ∃ L, L = (rels.eraseIdx rel).map (sbW (imgsW n gen V)) := ⟨_, rfl⟩
              have hLl : (rels.eraseIdx rel).length = L.length := by rw [hL, List.length_map]
              rw [← hL, hLl] at HI
              have HO : Hid (O = some L) := Lib.hid (by rw [HOD.out, hL]; exact sbL_good2 (by rw [← hL]; exact HI.out.1))
              have hLm : L.length ≤ 100 := by rw [← hLl]; exact HMANY.out
              have hll : lenL L ≤ 1000000000000 := by
                have h3 := lenL_le HI.out.1
                have h4 : L.length * 4000 ≤ 100 * 4000 := Nat.mul_le_mul_right _ hLm
                omega
              have HTL := Lib.hid (OwnT.tab HI.out.2.out)
              have H12 := Lib.hid (length12_any wr (.slice A5 L.length c5) ((n : Int) - 1) L HTL.out hll)
              have HBXQ := Lib.hid HI.out.2.box
              have HBP7 := Lib.hid HI.out.2.below
              have HPL : Hid (pb < wr.heap.size) := Lib.hid (Array.getElem?_eq_some_iff.1 HI.out.2.box).1
              have hl0 : (0 : Int) ≤ (lenL L : Int) := Int.natCast_nonneg _
              have hl1 : (lenL L : Int) ≤ 1000000000000 := by omega
              clear hL hLl hLm HI hll
              by_cases h4 : 4000 < lenL L
              · have HE4 : Hid (elimE n rels rel gen = .inr 4) := Lib.hid (by rw [HE.out, HO.out]; simp only [elO, if_pos h4])
                have hd : decide (4000 < (lenL L : Int)) = true := decide_eq_true (by omega)
                clear h4 HPR2
                generalize lenL L = ll at *
                go_wp2_with ((with_reducible refine wpList_sel 141 ?_); refine wpList_val rfl (r_loadAt 24 (.tmp 16) _ _ rfl rfl (load40 HBXQ.out)) ?_)
                refine H12.out.mono ?_
                rintro e W8 ⟨rfl, hb8⟩
                have HB8 := Lib.hid (HB4.out.trans (hb8.mono HB4.out.size))
                have HX8 := Lib.hid ((hb8.block _ (Array.getElem?_eq_some_iff.1 HX3.out).1).trans HX3.out)
                clear hb8 x1 x2
                go_wp2_with ((with_reducible refine wpList_sel 144 ?_); refine wpList_val rfl (r_build40 rfl) ?_; refine wpList_skip rfl (r_store40 (.tmp 6) (.tmp 144) rfl (w.heap.size + 1) zero40 zero40 rfl rfl HX8.out rfl rfl zero40_one) ?_)
                try simp only [Exit.inBlock, Exit.then]
                exact bodyPost_ret (results_27 (p := 6) (q := 7) (r := 8) rfl _ _ (w.heap.size + 1) zero40 (.slice none 0 0) (.int .i64 4) rfl rfl rfl (setRow_heap _ _ _ _ _ _ HX8.out) rfl) rfl ⟨by rw [HE4.out]; rfl, below_setRow HB8.out (Nat.le_succ _) _⟩
              · have HE4 : Hid (elimE n rels rel gen = .inl (cleanL L, imgsW n gen V)) := Lib.hid (by rw [HE.out, HO.out]; simp only [elO, if_neg h4])
                have hd : decide (4000 < (lenL L : Int)) = false := decide_eq_false (by omega)
                have HPE := Lib.hid (HPR2.out L HO.out (by omega))
                clear h4 HPR2
                generalize lenL L = ll at *
                go_wp2_with ((with_reducible refine wpList_sel 141 ?_); refine wpList_val rfl (r_loadAt 24 (.tmp 16) _ _ rfl rfl (load40 HBXQ.out)) ?_)
                refine H12.out.mono ?_
                rintro e W8 ⟨rfl, hb8⟩
                have HBX8 := Lib.hid ((hb8.block _ (Array.getElem?_eq_some_iff.1 HBXQ.out).1).trans HBXQ.out)
                have H39 := Lib.hid (clean39_ok W8 _ ((n : Int) - 1) L (kept_tab.below HTL.out hb8) HPE.out)
                have HB78 := Lib.hid hb8
                clear hb8 x1 x2
                go_wp2_with ((with_reducible refine wpList_sel 146 ?_); refine wpList_val rfl (r_loadAt 24 (.tmp 16) _ _ rfl rfl (load40 HBX8.out)) ?_)
                refine H39.out.mono ?_
                rintro e W9 ⟨⟨A9, c9, rfl, ht9⟩, hb9⟩
                have hbR : Below wr.heap.size wr W9 := HB78.out.trans (hb9.mono HB78.out.size)
                have HX9 := Lib.hid ((hbR.block _ (Array.getElem?_eq_some_iff.1 HX3.out).1).trans HX3.out)
                have HBX9 := Lib.hid ((hbR.block _ (Array.getElem?_eq_some_iff.1 HBXQ.out).1).trans HBXQ.out)
                have HB9 := Lib.hid (HB4.out.trans (hbR.mono HB4.out.size))
                have HG9 := Lib.hid (HGT.out W9 (HBP7.out.trans (hbR.mono (Nat.le_of_lt HPL.out))))
                have HT9 := Lib.hid ht9
                have HS9 : Hid (wr.heap.size ≤ W8.heap.size ∧ W8.heap.size ≤ W9.heap.size) := Lib.hid ⟨HB78.out.size, hb9.size⟩
                clear ht9 hb9 hbR
                generalize cleanL L = CL at *
                have HBS := Lib.hid (setRow_heap W9 pb _ #[.int .i64 ((n : Int) - 1), .slice A9 CL.length c9] _ _ HBX9.out)
                have HXS : Hid ((W9.setRow pb #[.int .i64 ((n : Int) - 1), .slice A9 CL.length c9]).heap[w.heap.size + 1]? = some (.cells zero40 24 (0, 0))) := Lib.hid ((setRow_ne (by have := HLO.out; omega)).trans HX9.out)
                go_wp2_with (first
                  | ((with_reducible refine wpList_selStore 24 16 148 ?_); refine wpList_skip rfl (r_store40 (.tmp 16) (.tmp 148) rfl pb _ #[.int .i64 ((n : Int) - 1), .slice A9 CL.length c9] rfl rfl HBX9.out rfl rfl (by kernel_rfl)) ?_)
                  | ((with_reducible refine wpList_sel 150 ?_); refine wpList_val rfl (r_loadAt 24 (.tmp 16) _ _ rfl rfl (load40 HBS.out)) ?_)
                  | ((with_reducible refine wpList_selStore 24 6 150 ?_); refine wpList_skip rfl (r_store40 (.tmp 6) (.tmp 150) rfl (w.heap.size + 1) zero40 #[.int .i64 ((n : Int) - 1), .slice A9 CL.length c9] rfl rfl HXS.out rfl rfl (by kernel_rfl)) ?_))
                try simp only [Exit.inBlock, Exit.then]
                refine bodyPost_ret (results_27 (p := 6) (q := 7) (r := 8) rfl _ _ (w.heap.size + 1) #[.int .i64 ((n : Int) - 1), .slice A9 CL.length c9] (.slice A n c) (.int .i64 0) rfl rfl rfl (setRow_heap _ _ _ _ _ _ HXS.out) rfl) rfl ⟨?_, below_setRow (below_setRow HB9.out (by have := HLO.out; omega) _) (Nat.le_succ _) _⟩
                rw [HE4.out]
                have hsz : ((W9.setRow pb #[.int .i64 ((n : Int) - 1), .slice A9 CL.length c9]).setRow (w.heap.size + 1) #[.int .i64 ((n : Int) - 1), .slice A9 CL.length c9]).heap.size = W9.heap.size := by rw [setRow_size, setRow_size]
                have h1 := HLO.out
                have h2 := HPL.out
                have h3 := HS9.out
                refine ⟨A9, c9, A, c, by rw [HIML.out], ?_, ?_⟩
                · rw [hsz]
                  exact (HT9.out.keep fun q hq1 hq2 => (setRow_ne (by omega)).trans (setRow_ne (by omega))).mono (by omega) (Nat.le_refl _)
                · rw [hsz, HIML.out]
                  exact (HG9.out.keep fun q hq1 hq2 => (setRow_ne (by omega)).trans (setRow_ne (by omega))).mono (by omega) (by omega)
end Go.Proofs
namespace Go.Proofs
open Go.RowKit Go.Shelf Go.Lib Go.Sort Go.Proofs.Ct Go.Proofs.Tz Go.Maps
theorem elim10_any (w : World) (vr : Value) (n : Nat) (rels : List (List Int)) (rel gen : Nat) (hR : Tab w vr rels) (hsm : ∀ j, (rels.getD j []).length ≤ 8000000) (he : presE n rels = 0) (hr : rel < rels.length) (hg : 1 ≤ gen ∧ gen ≤ n) : Calls Tryz.prog 10 #[.agg #[.int .i64 (n : Int), vr], .int .i64 (rel : Int), .int .i64 (gen : Int)] w (RElimPost n rels rel gen w) := by
  by_cases hn1 : n = 1
  · exact elim10_no w vr n rels rel gen hR hsm he hr hg (.inl hn1)
  · cases ho : onceW (rels.getD rel []) gen with
    | none => exact elim10_no w vr n rels rel gen hR hsm he hr hg (.inr ho)
    | some k =>
      by_cases hl : 1000 < (imgW (rels.getD rel []) k).length
      · exact elim10_long w vr n rels rel gen k hR hsm he hr hg hn1 ho hl
      · exact elim10_made w vr n rels rel gen k hR hsm he hr hg hn1 ho (Nat.not_lt.1 hl)
theorem shortW_some {s w : List Int} {k : Nat} (hl : w.length / 2 + 1 ≤ s.length) (hk : k < s.length) (hh : headsB s k (w.take (w.length / 2 + 1)) = true) (hz : ∀ j, j < k → headsB s j (w.take (w.length / 2 + 1)) = false) : shortW s w = some (mulW (invW (w.drop (w.length / 2 + 1))) ((rot s k).drop (w.length / 2 + 1))) := by
  unfold shortW
  simp only [if_pos hl, find_some hk hh hz]
end Go.Proofs
namespace Go.Proofs
open Go.RowKit Go.Shelf Go.Lib Go.Sort Go.Proofs.Ct Go.Proofs.Tz Go.Maps
/-- what a slot of the region holds -/
inductive SlH where
  | eq (v : Value) | ints (l : List Int) | sh (o : Option (List Int)) | shv (o : Option (List Int))
def SlH.holds : SlH → Value → World → Prop
  | .eq u, v, _ => v = u
  | .ints l, v, w => ∃ A c, v = .slice A l.length c ∧ IntsAt w v l
  | .sh o, v, w => (match o with
    | none => v = .tuple #[.slice none 0 0, .bool false]
    | some x => ∃ A c, v = .tuple #[.slice A x.length c, .bool true] ∧ IntsAt w (.slice A x.length c) x)
  | .shv o, v, w => (match o with
    | none => v = .slice none 0 0
    | some x => ∃ A c, v = .slice A x.length c ∧ IntsAt w (.slice A x.length c) x)
theorem SlH.keep {s : SlH} {v : Value} {w w' : World} (h : Below w.heap.size w w') : s.holds v w → s.holds v w' := by
  cases s with
  | eq u => exact id
  | ints l => exact fun ⟨A, c, e, k⟩ => ⟨A, c, e, k.below h⟩
  | sh o =>
    cases o with
    | none => exact id
    | some x => exact fun ⟨A, c, e, k⟩ => ⟨A, c, e, k.below h⟩
  | shv o =>
    cases o with
    | none => exact id
    | some x => exact fun ⟨A, c, e, k⟩ => ⟨A, c, e, k.below h⟩
theorem build24_2 (z : Int) (A : Option Addr) (n c : Nat) (w : World) : (Instr.build 24 #[(0, .int .i64 z), (1, .slice A n c)]).run Tryz.prog w = .ok (.agg #[.int .i64 z, .slice A n c]) w := by kernel_rfl
theorem r_build24_2 {o : Oper} {a : Act} {w : World} (x y : Operand) (z : Int) (A : Option Addr) (n c : Nat) (ho : o.op = .build 24 #[(0, x), (1, y)]) (hx : a.eval x = .int .i64 z) (hy : a.eval y = .slice A n c) : (execOp a.eval o).run Tryz.prog w = .ok (.value (.agg #[.int .i64 z, .slice A n c])) w := by
  have hb := build24_2 z A n c w
  unfold execOp
  simp only [ho, List.map_toArray, List.map_cons, List.map_nil, hx, hy, Sem.run_bind, hb, Result.andThen_ok]
  rfl
end Go.Proofs
namespace Go.Proofs
open Go.RowKit Go.Shelf Go.Lib Go.Sort Go.Proofs.Ct Go.Proofs.Tz Go.Maps
theorem lens_of {n : Nat} {rels : List (List Int)} (he : presE (n : Int) rels = 0) : ∀ j, (rels.getD j []).length ≤ 8000000 := fun j => by
  rcases Nat.lt_or_ge j rels.length with h | h
  · have h1 := (vld_of he).len
    have h2 : (rels.getD j []).length ≤ lenL rels := lenL_mem (by rw [List.getD_eq_getElem?_getD, List.getElem?_eq_getElem h]; exact List.getElem_mem h)
    omega
  · rw [List.getD_eq_getElem?_getD, List.getElem?_eq_none h]; simp
end Go.Proofs
namespace Go.Proofs
open Go.RowKit Go.Shelf Go.Lib Go.Sort Go.Proofs.Ct Go.Proofs.Tz Go.Maps
theorem own_empty35 {base b : Nat} {w : World} (hb : base ≤ b) (h : w.heap[b]? = some (.cells #[] 3 (0, 0))) : OwnI base w (.slice (some ⟨b, 0, none⟩) 0 0) [] :=
  ⟨rfl, .inr ⟨b, 0, _, rfl, hb, h, Nat.le_refl _, by simp [maxLen], rfl, rfl⟩⟩
end Go.Proofs
namespace Go.Proofs
open Go.RowKit Go.Shelf Go.Lib Go.Sort Go.Proofs.Ct Go.Proofs.Tz Go.Maps
/-- the reference's state between two steps -/
structure SimR (w : World) (n : Nat) (rels : List (List Int)) (steps m : Nat) (s : Sp) (W : World) (A : Option Addr) (a : Nat) (B : Option Addr) (b : Nat) (C : Option Addr) (c : Nat) : Prop where
  box : W.heap[w.heap.size]? = some (.cells #[.int .i64 (s.n : Int), .slice A s.rels.length a] 24 (0, 0))
  res : W.heap[w.heap.size + 1]? = some (.cells zero40 24 (0, 0))
  rl : TabI (w.heap.size + 2) W.heap.size W (.slice A s.rels.length a) s.rels
  into : TabI (w.heap.size + 2) W.heap.size W (.slice B s.into.length b) s.into
  back : OwnI (w.heap.size + 2) W (.slice C s.back.length c) s.back
  ok : Okay n s
  il : ∀ z ∈ s.into, z.length ≤ 4000
  eq : simpTo m s = simpE n rels steps
  below : Below w.heap.size w W
  size : w.heap.size + 2 ≤ W.heap.size
theorem SimR.set {w : World} {n : Nat} {rels : List (List Int)} {steps m m' : Nat} {s s' : Sp} {W W1 : World} {A A' B B' C C' : Option Addr} {a a' b b' c c' : Nat} (h : SimR w n rels steps m s W A a B b C c) (hb : Below W.heap.size W W1)
    (hr : TabI (w.heap.size + 2) W1.heap.size W1 (.slice A' s'.rels.length a') s'.rels) (hi : TabI (w.heap.size + 2) W1.heap.size W1 (.slice B' s'.into.length b') s'.into) (hk : OwnI (w.heap.size + 2) W1 (.slice C' s'.back.length c') s'.back)
    (ho : Okay n s') (hl : ∀ z ∈ s'.into, z.length ≤ 4000) (he : simpTo m' s' = simpE n rels steps) : SimR w n rels steps m' s' (W1.setRow w.heap.size #[.int .i64 (s'.n : Int), .slice A' s'.rels.length a']) A' a' B' b' C' c' := by
  have h1 := (hb.block _ (Array.getElem?_eq_some_iff.1 h.box).1).trans h.box
  have hs : (W1.setRow w.heap.size #[.int .i64 (s'.n : Int), .slice A' s'.rels.length a']).heap.size = W1.heap.size := setRow_size _ _ _
  refine ⟨setRow_heap _ _ _ _ _ _ h1, (setRow_ne (by omega)).trans ((hb.block _ (Array.getElem?_eq_some_iff.1 h.res).1).trans h.res), ?_, ?_, owns_keep hk fun r hr' => setRow_ne fun e => by have := (owns_block hk r hr').1; omega, ho, hl, he, below_setRow (h.below.trans (hb.mono h.below.size)) (Nat.le_refl _) _, by rw [hs]; exact Nat.le_trans h.size hb.size⟩
  · rw [hs]; exact hr.keep fun q hq _ => setRow_ne (by omega)
  · rw [hs]; exact hi.keep fun q hq _ => setRow_ne (by omega)
theorem SimR.rels' {w : World} {n : Nat} {rels : List (List Int)} {steps m : Nat} {s : Sp} {W W1 : World} {A B C : Option Addr} {a b c : Nat} (h : SimR w n rels steps m s W A a B b C c) (hb : Below W.heap.size W W1) : TabI (w.heap.size + 2) W1.heap.size W1 (.slice A s.rels.length a) s.rels := (h.rl.below hb (Nat.le_refl _)).mono (Nat.le_refl _) hb.size
theorem SimR.into' {w : World} {n : Nat} {rels : List (List Int)} {steps m : Nat} {s : Sp} {W W1 : World} {A B C : Option Addr} {a b c : Nat} (h : SimR w n rels steps m s W A a B b C c) (hb : Below W.heap.size W W1) : TabI (w.heap.size + 2) W1.heap.size W1 (.slice B s.into.length b) s.into := (h.into.below hb (Nat.le_refl _)).mono (Nat.le_refl _) hb.size
theorem SimR.same {w : World} {n : Nat} {rels : List (List Int)} {steps m : Nat} {s : Sp} {W W1 : World} {A B C : Option Addr} {a b c : Nat} (h : SimR w n rels steps m s W A a B b C c) (hb : Below W.heap.size W W1) : SimR w n rels steps m s (W1.setRow w.heap.size #[.int .i64 (s.n : Int), .slice A s.rels.length a]) A a B b C c :=
  h.set hb (h.rels' hb) (h.into' hb) (owns_below h.back hb) h.ok h.il h.eq
end Go.Proofs
namespace Go.Proofs
open Go.RowKit Go.Shelf Go.Lib Go.Sort Go.Proofs.Ct Go.Proofs.Tz Go.Maps
theorem bl3 {a b c : World} (h1 : Below a.heap.size a b) (h2 : Below b.heap.size b c) : Below a.heap.size a c := h1.trans (h2.mono h1.size)
theorem below_sz {w W : World} {o : Obj} (h : Below (w.heap.size + 1) (w.alloc o) W) : Below (w.alloc o).heap.size (w.alloc o) W := by rw [World.size_alloc]; exact h
theorem lit3 (w : World) (x y z : List Int) (hx : Fits x) (hy : Fits y) (hz : Fits z) {n m l : Nat} (hn : x.length = n) (hm : y.length = m) (hl : z.length = l) (hs : n ≤ 1000 ∧ m ≤ 1000 ∧ l ≤ 1000) {e : TypeId} :
    Tab ((((w.alloc (.cells (ints x).toArray 3)).alloc (.cells (ints y).toArray 3)).alloc (.cells (ints z).toArray 3)).alloc (.cells #[.slice (some ⟨w.heap.size, 0, none⟩) n n, .slice (some ⟨w.heap.size + 1, 0, none⟩) m m, .slice (some ⟨w.heap.size + 1 + 1, 0, none⟩) l l] e)) (.slice (some ⟨w.heap.size + 1 + 1 + 1, 0, none⟩) 3 3) [x, y, z] := by
  have h1 := ints_lit w x hx n hn hs.1
  have h2 := ints_lit (w.alloc (.cells (ints x).toArray 3)) y hy m hm hs.2.1
  have h3 := ints_lit ((w.alloc (.cells (ints x).toArray 3)).alloc (.cells (ints y).toArray 3)) z hz l hl hs.2.2
  have h4 := tab_three _ _ _ _ _ _ _ (h1.below (((Below.refl _ _).alloc (Nat.le_refl _) _).alloc (by simp) _)) (h2.below ((Below.refl _ _).alloc (Nat.le_refl _) _)) h3 (e := e)
  simp only [World.size_alloc] at h4
  exact h4
theorem lit3_below (w : World) (x y z : List Int) (n m l : Nat) {e : TypeId} : Below w.heap.size w ((((w.alloc (.cells (ints x).toArray 3)).alloc (.cells (ints y).toArray 3)).alloc (.cells (ints z).toArray 3)).alloc (.cells #[.slice (some ⟨w.heap.size, 0, none⟩) n n, .slice (some ⟨w.heap.size + 1, 0, none⟩) m m, .slice (some ⟨w.heap.size + 1 + 1, 0, none⟩) l l] e)) :=
  ((((Below.refl _ _).alloc (Nat.le_refl _) _).alloc (by simp) _).alloc (by simp; omega) _).alloc (by simp; omega) _
theorem lit4 (w : World) (x y z q : List Int) (hx : Fits x) (hy : Fits y) (hz : Fits z) (hq : Fits q) {n m l k : Nat} (hn : x.length = n) (hm : y.length = m) (hl : z.length = l) (hk : q.length = k) (hs : n ≤ 1000 ∧ m ≤ 1000 ∧ l ≤ 1000 ∧ k ≤ 1000) {e : TypeId} :
    Tab (((((w.alloc (.cells (ints x).toArray 3)).alloc (.cells (ints y).toArray 3)).alloc (.cells (ints z).toArray 3)).alloc (.cells (ints q).toArray 3)).alloc (.cells #[.slice (some ⟨w.heap.size, 0, none⟩) n n, .slice (some ⟨w.heap.size + 1, 0, none⟩) m m, .slice (some ⟨w.heap.size + 1 + 1, 0, none⟩) l l, .slice (some ⟨w.heap.size + 1 + 1 + 1, 0, none⟩) k k] e)) (.slice (some ⟨w.heap.size + 1 + 1 + 1 + 1, 0, none⟩) 4 4) [x, y, z, q] := by
  have h1 := ints_lit w x hx n hn hs.1
  have h2 := ints_lit (w.alloc (.cells (ints x).toArray 3)) y hy m hm hs.2.1
  have h3 := ints_lit ((w.alloc (.cells (ints x).toArray 3)).alloc (.cells (ints y).toArray 3)) z hz l hl hs.2.2.1
  have h4 := ints_lit (((w.alloc (.cells (ints x).toArray 3)).alloc (.cells (ints y).toArray 3)).alloc (.cells (ints z).toArray 3)) q hq k hk hs.2.2.2
  have b : ∀ (W : World) (o : Obj), Below W.heap.size W (W.alloc o) := fun W o => (Below.refl _ _).alloc (Nat.le_refl _) _
  have h5 := heap_alloc_new ((((w.alloc (.cells (ints x).toArray 3)).alloc (.cells (ints y).toArray 3)).alloc (.cells (ints z).toArray 3)).alloc (.cells (ints q).toArray 3)) (.cells #[.slice (some ⟨w.heap.size, 0, none⟩) n n, .slice (some ⟨w.heap.size + 1, 0, none⟩) m m, .slice (some ⟨w.heap.size + 1 + 1, 0, none⟩) l l, .slice (some ⟨w.heap.size + 1 + 1 + 1, 0, none⟩) k k] e)
  simp only [World.size_alloc] at h2 h3 h4 h5
  exact tab_blk (us := [.slice (some ⟨w.heap.size, 0, none⟩) n n, .slice (some ⟨w.heap.size + 1, 0, none⟩) m m, .slice (some ⟨w.heap.size + 1 + 1, 0, none⟩) l l, .slice (some ⟨w.heap.size + 1 + 1 + 1, 0, none⟩) k k]) h5 rfl rfl (by simp) fun i hi => by
    have : i = 0 ∨ i = 1 ∨ i = 2 ∨ i = 3 := by simp at hi; omega
    rcases this with rfl | rfl | rfl | rfl
    · exact (((h1.below (b _ _)).below (b _ _)).below (b _ _)).below (b _ _)
    · exact ((h2.below (b _ _)).below (b _ _)).below (b _ _)
    · exact (h3.below (b _ _)).below (b _ _)
    · exact h4.below (b _ _)
theorem lit4_below (w : World) (x y z q : List Int) (n m l k : Nat) {e : TypeId} : Below w.heap.size w (((((w.alloc (.cells (ints x).toArray 3)).alloc (.cells (ints y).toArray 3)).alloc (.cells (ints z).toArray 3)).alloc (.cells (ints q).toArray 3)).alloc (.cells #[.slice (some ⟨w.heap.size, 0, none⟩) n n, .slice (some ⟨w.heap.size + 1, 0, none⟩) m m, .slice (some ⟨w.heap.size + 1 + 1, 0, none⟩) l l, .slice (some ⟨w.heap.size + 1 + 1 + 1, 0, none⟩) k k] e)) :=
  (((((Below.refl _ _).alloc (Nat.le_refl _) _).alloc (by simp) _).alloc (by simp; omega) _).alloc (by simp; omega) _).alloc (by simp; omega) _
/-- Simplify at given arguments -/
theorem simpK (n : Nat) (rels : List (List Int)) (steps : Nat) (m : Nat) (R I : List (List Int)) (B : List Int) (a b c : Nat) (h1 : presE n rels = 0) (h2 : simpE n rels steps = .inl ⟨m, R, I, B⟩) (hs : steps ≤ 1000) (ha : R.length = a) (hb : I.length = b) (hc : B.length = c) (W : World) (vr : Value) (hr : Tab W vr rels) :
    Calls Tryz.prog 18 #[.agg #[.int .i64 (n : Int), vr], .int .i64 (steps : Int)] W fun e w' => (∃ A1 c1 A2 c2 A3 c3, e = .returned (.tuple #[.agg #[.int .i64 (m : Int), .slice A1 a c1], .slice A2 b c2, .slice A3 c c3, .int .i64 0]) ∧ Tab w' (.slice A1 a c1) R ∧ Tab w' (.slice A2 b c2) I ∧ IntsAt w' (.slice A3 c c3) B) ∧ Below W.heap.size W w' :=
  (simplify10_ok W vr n rels steps hr h1 hs).mono fun e w' ⟨h, hB⟩ => by
    rw [h2] at h
    subst ha hb hc
    obtain ⟨A, a, B, b, C, c, e1, t1, t2, t3⟩ := h
    exact ⟨⟨A, a, B, b, C, c, e1, t1, t2, t3⟩, hB⟩
theorem sameK {W : World} {va vb : Value} {g : Int} {A : List (List Int)} (ha : Tab W va A) (hb : Tab W vb A) : Calls Tryz.prog 13 #[.agg #[.int .i64 g, va], .agg #[.int .i64 g, vb]] W fun e w' => e = .returned (.bool true) ∧ Below W.heap.size W w' :=
  (same26_any W va vb g g A A ha hb).mono fun e w' ⟨h1, h2⟩ => ⟨h1.trans (ret_bool (by simp)), h2⟩
theorem equalK {W : World} {va vb : Value} {A : List (List Int)} (ha : Tab W va A) (hb : Tab W vb A) : Calls Tryz.prog 14 #[va, vb] W fun e w' => e = .returned (.bool true) ∧ Below W.heap.size W w' :=
  (equal8_any W va vb A A ha hb).mono fun e w' ⟨h1, h2⟩ => ⟨h1.trans (ret_bool (by simp)), h2⟩
theorem numbersK {W : World} {va vb : Value} {A : List Int} (ha : IntsAt W va A) (hb : IntsAt W vb A) : Calls Tryz.prog 20 #[va, vb] W fun e w' => e = .returned (.bool true) ∧ Below W.heap.size W w' :=
  (numbers11_any W va vb A A ha hb).mono fun e w' ⟨h1, h2⟩ => ⟨h1.trans (ret_bool (by simp)), h2⟩
theorem pres_awake : presE 3 [[3, -2, -1], [1, 1], [2, 2, 2], [3, 3]] = 0 := by decide +kernel
theorem simp_awake : simpE 3 [[3, -2, -1], [1, 1], [2, 2, 2], [3, 3]] 100 = .inl ⟨2, [[1, 1], [2, 2, 2], [1, 2, 1, 2]], [[1], [2], [1, 2]], [1, 2]⟩ := by kernel_rfl
end Go.Proofs
