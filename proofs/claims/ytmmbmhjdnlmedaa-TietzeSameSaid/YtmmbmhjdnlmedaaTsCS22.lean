/- tietze.Simplify where it refuses; tietze.Shorten; Plain: permutations that satisfy a presentation, through a simplification; TietzeSame: the presentation in its box as its relators are joined; Word lists as they are laid by literals; tietze's functions at given arguments; The walk of the law's awake. -/
import Derived.Test.YtmmbmhjdnlmedaaTsCS21
import Derived.Test.YtmmbmhjdnlmedaaTsCS10
namespace Go.Proofs
open Go.RowKit Go.Shelf Go.Lib Go.Sort Go.Proofs.Ct Go.Proofs.Tz Go.Maps
def SimpErr (x : Int) (w : World) (e : Ending) (w' : World) : Prop := e = .returned (.tuple #[.agg #[.int .i64 0, .slice none 0 0], .slice none 0 0, .slice none 0 0, .int .i64 x]) ∧ Below w.heap.size w w'
set_option maxRecDepth 100000 in
set_option maxHeartbeats 4000000 in
theorem simplify10_range (w : World) (vr : Value) (n : Nat) (rels : List (List Int)) (steps : Int) (hR : Tab w vr rels) (he : presE n rels = 0) (hb : steps < 0 ∨ 1000 < steps) : Calls Try.prog 10 #[.agg #[.int .i64 (n : Int), vr], .int .i64 steps] w (SimpErr 2 w) := by
  obtain ⟨Ar, cr, rfl⟩ := Tab.form hR
  have H26 : Hid (∀ W, Tab W (.slice Ar rels.length cr) rels → Calls Try.prog 26 #[.agg #[.int .i64 (n : Int), .slice Ar rels.length cr]] W (CleanPost (n : Int) rels W)) := Lib.hid fun W h => clean26_ok W _ (n : Int) rels h he
  have HBN := Lib.hid (ElBox.new w n Ar cr rels.length)
  have HRR := Lib.hid hR
  unfold CleanPost at H26
  clear hR he
  have h4 : (steps < 0) ∨ (0 ≤ steps ∧ 1000 < steps) := by omega
  clear hb
  have hd : (decide (steps < 0) = true) ∨ (decide (steps < 0) = false ∧ decide (1000 < steps) = true) := by
    rcases h4 with h | ⟨h1, h2⟩
    · exact .inl (decide_eq_true h)
    · exact .inr ⟨decide_eq_false (by omega), decide_eq_true h2⟩
  clear h4
  rcases hd with d1 | ⟨d1, d2⟩
  all_goals
    go_enter Try.func10, Try.ntmps10
    go_wp2_with ((with_reducible refine wpList_sel 4 ?_); refine wpList_val rfl (r_alloc40 rfl) ?_)
    generalize hw0 : (w.alloc (.cells #[.int .i64 (n : Int), .slice Ar rels.length cr] 27)).alloc (.cells zero40 27) = w0 at *
    have HBX := Lib.hid fun W (hb : Below w0.heap.size w0 W) => HBN.out.at_ hb
    have HB0 := Lib.hid HBN.out.below
    have HBP := Lib.hid HBN.out.arg
    have HC := Lib.hid (H26.out w0 (kept_tab.below HRR.out HB0.out))
    clear hw0 HRR H26
    generalize cleanL rels = cl at *
    go_wp2_with (first
      | ((with_reducible refine wpList_sel 13 ?_); refine wpList_val rfl (r_loadAt 27 (.tmp 2) _ _ rfl rfl (load40 HBP.out)) ?_)
      | (go_at_call 26; (refine HC.out.mono ?_); rintro e w2 ⟨A, c, F, rfl, h2⟩
         obtain ⟨-, x1, x2⟩ := HBX.out _ h2.below
         have HX2 := Lib.hid x2
         have HSR : Hid (∀ x y, (w2.setCell ⟨w.heap.size + 1, 0, none⟩ x).setCell ⟨w.heap.size + 1, 1, none⟩ y = w2.setRow (w.heap.size + 1) #[x, y]) := Lib.hid fun x y => two_set HX2.out
         obtain ⟨z1, z2, z3, z4⟩ := two_facts x2 (.int .i64 (n : Int))
         have HX3 : Hid (((w2.setCell ⟨w.heap.size + 1, 0, none⟩ (.int .i64 (n : Int))).setCell ⟨w.heap.size + 1, 1, none⟩ (.slice A cl.length c)).heap[w.heap.size + 1]? = some (.cells #[.int .i64 (n : Int), .slice A cl.length c] 27 (0, 0))) := Lib.hid (by rw [HSR.out]; exact setRow_heap _ _ _ _ _ _ HX2.out)
         have HB2 : Hid (Below w.heap.size w ((w2.setCell ⟨w.heap.size + 1, 0, none⟩ (.int .i64 (n : Int))).setCell ⟨w.heap.size + 1, 1, none⟩ (.slice A cl.length c))) := Lib.hid (by rw [HSR.out]; exact below_setRow (HB0.out.trans (h2.below.mono HB0.out.size)) (Nat.le_succ _) _)
         clear h2 x1 x2)
      | ((with_reducible refine wpList_sel 27 ?_); refine wpList_val rfl (r_build40 rfl) ?_; refine wpList_skip rfl (r_store40 (.tmp 4) (.tmp 27) rfl (w.heap.size + 1) #[.int .i64 (n : Int), .slice A cl.length c] zero40 rfl rfl HX3.out rfl rfl zero40_one) ?_))
    try simp only [Exit.inBlock, Exit.then]
    exact bodyPost_ret (results_27_4 (p := 4) (q := 5) (r := 6) (t := 7) rfl _ _ (w.heap.size + 1) zero40 (.slice none 0 0) (.slice none 0 0) (.int .i64 2) rfl rfl rfl rfl (setRow_heap _ _ _ _ _ _ HX3.out) rfl) rfl ⟨rfl, below_setRow HB2.out (Nat.le_succ _) _⟩
end Go.Proofs
namespace Go.Proofs
open Go.RowKit Go.Shelf Go.Lib Go.Sort Go.Proofs.Ct Go.Proofs.Tz Go.Maps
/-- the relators of a shorter presentation, and whether they are shorter -/
def shortenE (rels : List (List Int)) : List (List Int) × Bool :=
  match shortF (cleanL rels) with
  | some l => (l, true)
  | none => (cleanL rels, false)
def ShortenPost (n : Nat) (rels : List (List Int)) (w : World) (e : Ending) (w' : World) : Prop :=
  (∃ A c, e = .returned (.tuple #[.agg #[.int .i64 (n : Int), .slice A (shortenE rels).1.length c], .bool (shortenE rels).2, .int .i64 0]) ∧ Tab w' (.slice A (shortenE rels).1.length c) (shortenE rels).1) ∧ Below w.heap.size w w'
theorem results_27_3 {fn : Func} {p q r : Tmp} (h : fn.results = #[.cell p 27, .tmp q, .tmp r]) (tmps : Array Value) (w : World) (g : Nat) (cs : Array Value) (u v : Value)
    (hp : tmps.getD p undef = .pointer (some ⟨g, 0, none⟩)) (hq : tmps.getD q undef = u) (hr : tmps.getD r undef = v) (hg : w.heap[g]? = some (.cells cs 27 (0, 0))) (hs : cs.size = 2) :
    (results fn tmps).run Try.prog w = .ok (.tuple #[.agg cs, u, v]) w := by
  have hp' : tmps[p]?.getD undef = .pointer (some ⟨g, 0, none⟩) := by simpa using hp
  have hq' : tmps[q]?.getD undef = u := by simpa using hq
  have hr' : tmps[r]?.getD undef = v := by simpa using hr
  simp [results, h, hp', hq', hr', asAddr, run_loadVar_row w g 27 27 cs (0, 0) _ hg Try.underlying27 rfl (by rw [hs]; exact info40s)]
theorem sh28_end {base xb : Nat} {n : Nat} {rels cl : List (List Int)} {A : Option Addr} {c : Nat} {w w' : World} {e : Ending} (hcl : cleanL rels = cl) (hS : StX base xb ⟨n, cl, [], []⟩ 0 w A c none 0 none 0) (h : Sh28 base xb ⟨n, cl, [], []⟩ none 0 none 0 w e w') :
    e = .returned (.bool (shortenE rels).2) ∧ (∃ A' c', StX base xb ⟨n, (shortenE rels).1, [], []⟩ 0 w' A' c' none 0 none 0) ∧ BelX (fun k => k = xb) w w' := by
  unfold Sh28 at h
  unfold shortenE
  rw [hcl]
  split at h
  · rename_i q
    simp only at q
    rw [q]
    exact ⟨h.1, ⟨_, _, hS.below h.2⟩, BelX.of_below h.2⟩
  · rename_i l q
    simp only at q
    rw [q]
    refine ⟨h.1, h.2.1, ?_⟩
    obtain ⟨h1, h2, h3, h4, h5⟩ := h.2.2
    exact ⟨h1, h2, h3, h4, fun k hk hx => h5 k hk fun hx' => by
      rcases hx' with rfl | hx'
      · exact hx rfl
      · cases hx'⟩
set_option maxRecDepth 100000 in
set_option maxHeartbeats 4000000 in
theorem shorten9_ok (w : World) (vr : Value) (n : Nat) (rels : List (List Int)) (hR : Tab w vr rels) (he : presE n rels = 0) : Calls Try.prog 9 #[.agg #[.int .i64 (n : Int), vr]] w (ShortenPost n rels w) := by
  obtain ⟨Ar, cr, rfl⟩ := Tab.form hR
  have H26 : Hid (∀ W, Tab W (.slice Ar rels.length cr) rels → Calls Try.prog 26 #[.agg #[.int .i64 (n : Int), .slice Ar rels.length cr]] W (CleanPost (n : Int) rels W)) := Lib.hid fun W h => clean26_ok W _ (n : Int) rels h he
  have HV : Hid (Vld n rels) := Lib.hid (vld_of he)
  have HBN := Lib.hid (ElBox.new w n Ar cr rels.length)
  have HRR := Lib.hid hR
  unfold CleanPost at H26
  unfold ShortenPost
  clear hR he
  go_enter Try.func9, Try.ntmps9
  go_wp2_with ((with_reducible refine wpList_sel 2 ?_); refine wpList_val rfl (r_alloc40 rfl) ?_)
  generalize hw0 : (w.alloc (.cells #[.int .i64 (n : Int), .slice Ar rels.length cr] 27)).alloc (.cells zero40 27) = w0 at *
  have HBX := Lib.hid fun W (hb : Below w0.heap.size w0 W) => HBN.out.at_ hb
  have HB0 := Lib.hid HBN.out.below
  have HBP := Lib.hid HBN.out.arg
  have HZ0 := Lib.hid HBN.out.size
  have HC := Lib.hid (H26.out w0 (kept_tab.below HRR.out HB0.out))
  clear hw0 HRR H26
  generalize hcl : cleanL rels = cl at *
  go_upto_region 4 with (first
    | ((with_reducible refine wpList_sel 10 ?_); refine wpList_val rfl (r_loadAt 27 (.tmp 1) _ _ rfl rfl (load40 HBP.out)) ?_)
    | (go_at_call 26; (refine HC.out.mono ?_); rintro e w2 ⟨A, c, F, rfl, h2⟩
       have H2 := Lib.hid h2
       obtain ⟨-, x1, x2⟩ := HBX.out _ h2.below
       have HX1 := Lib.hid x1
       have HX2 := Lib.hid x2
       clear h2 x1 x2))
  obtain ⟨w3, hw3⟩ : ∃ w3, w3 = w2.alloc (.cells #[.int .i64 (n : Int), .slice A cl.length c] 27) := ⟨_, rfl⟩
  rw [← hw3]
  have hb23 : Below w2.heap.size w2 w3 := by rw [hw3]; exact (Below.refl _ _).alloc (Nat.le_refl _) _
  have hr3 : w3.heap[w2.heap.size]? = some (.cells #[.int .i64 (n : Int), .slice A cl.length c] 27 (0, 0)) := by rw [hw3]; exact heap_alloc_new w2 _
  have HR3 := Lib.hid hr3
  have HX3 := Lib.hid ((hb23.block _ (Array.getElem?_eq_some_iff.1 HX2.out).1).trans HX2.out)
  have HO3 : Hid (OutSt 24 F w w3 (.slice A cl.length c) cl) := Lib.hid ((OutSt.base HB0.out H2.out).below' hb23)
  have hz3 : w.heap.size + 1 < w3.heap.size := (Array.getElem?_eq_some_iff.1 HX3.out).1
  have HZ3 := Lib.hid hz3
  clear hw3 hb23 hr3 HX1 HX2 H2 HC hz3
  generalize w2.heap.size = pb at *
  go_upto_region 5 with ((with_reducible refine wpList_sel 18 ?_); refine wpList_val rfl (r_loadAt 27 (.tmp 5) _ _ rfl rfl (load40 HR3.out)) ?_; (with_reducible refine wpList_sel 19 ?_); refine wpList_val rfl (r_build65 (.tmp 18) (n : Int) A cl.length c rfl rfl) ?_)
  obtain ⟨w4, hw4⟩ : ∃ w4, w4 = w3.alloc (.cells #[.int .i64 (n : Int), .slice A cl.length c, .slice none 0 0, .slice none 0 0, .int .i64 0] 65) := ⟨_, rfl⟩
  rw [← hw4]
  have hb34 : Below w3.heap.size w3 w4 := by rw [hw4]; exact (Below.refl _ _).alloc (Nat.le_refl _) _
  have hx4 : w4.heap[w3.heap.size]? = some (.cells #[.int .i64 (n : Int), .slice A cl.length c, .slice none 0 0, .slice none 0 0, .int .i64 0] 65 (0, 0)) := by rw [hw4]; exact heap_alloc_new w3 _
  have HB34 := Lib.hid hb34
  have HX4 := Lib.hid ((hb34.block _ (Array.getElem?_eq_some_iff.1 HX3.out).1).trans HX3.out)
  have HO4 := Lib.hid (HO3.out.below' hb34)
  have HS4 : Hid (StX w.heap.size w3.heap.size ⟨n, cl, [], []⟩ 0 w4 A c none 0 none 0) := Lib.hid ⟨hx4, Nat.le_of_lt (Nat.lt_of_succ_lt HZ3.out), TabX.new2 HO4.out (fun k hk => by
    rcases hk with rfl | hk
    · refine ⟨fun h => ?_, fun h => ?_⟩
      · obtain ⟨-, -, C, hC⟩ := HO4.out.fs _ h
        exact (ne_type hC hx4 (by decide)) rfl
      · obtain ⟨-, C, hC⟩ := HO4.out.out.block _ h
        exact (ne_type hC hx4 (by decide)) rfl
    · cases hk), fun w' k => tab_nil, World.ownsRow_nil _ _ _ _⟩
  have H28 : Hid (Calls Try.prog 28 #[.pointer (some ⟨w3.heap.size, 0, none⟩)] w4 (fun e w' => e = .returned (.bool (shortenE rels).2) ∧ (∃ A' c', StX w.heap.size w3.heap.size ⟨n, (shortenE rels).1, [], []⟩ 0 w' A' c' none 0 none 0) ∧ BelX (fun k => k = w3.heap.size) w4 w')) := Lib.hid ((shorten28_any w.heap.size w3.heap.size ⟨n, cl, [], []⟩ w4 A c none 0 none 0 HS4.out (by rw [← hcl]; exact HV.out.clean) (by have := HB34.out.size; have := HZ3.out; omega)).mono fun e w' h => sh28_end hcl HS4.out h)
  have HBW4 : Hid (Below w.heap.size w w4) := HO4.out.below |> fun h => Lib.hid h
  clear hw4 hb34 hx4 HR3 HX3 HO3
  generalize w3.heap.size = xb at *
  go_upto_region 6 with
    (go_at_call 28; (refine H28.out.mono ?_); rintro e w5 ⟨rfl, ⟨A5, c5, hs5⟩, hb5⟩
     have HS5 := Lib.hid hs5
     have HB5 := Lib.hid hb5
     clear hs5 hb5)
  have hbx5 := HS5.out.box
  have HR5 : Hid (w5.heap[w.heap.size + 1]? = some (.cells zero40 27 (0, 0))) := Lib.hid ((HB5.out.block _ (Array.getElem?_eq_some_iff.1 HX4.out).1 (by have := HZ3.out; omega)).trans HX4.out)
  have HRL : Hid (∀ x y, (shortenE rels).1 = x → (shortenE rels).2 = y → shortenE rels = (x, y)) := Lib.hid fun x y hx hy => by rw [← hx, ← hy]
  generalize hrl : (shortenE rels).1 = rl at *
  generalize hbl : (shortenE rels).2 = bl at *
  have HRE := Lib.hid (HRL.out rl bl rfl rfl)
  clear hrl hbl HRL
  have HC6 : Hid (∀ W', w5.grownBy W' (some (w.heap.size + 1)) → W'.heap[xb]? = some (.cells #[.int .i64 (n : Int), .slice A5 rl.length c5, .slice none 0 0, .slice none 0 0, .int .i64 0] 65 (0, 0))) := Lib.hid fun W' hg => (hg.block xb (Array.getElem?_eq_some_iff.1 HS5.out.box).1 (by have := HZ3.out; simp; omega)).trans HS5.out.box
  clear hbx5
  refine (wpIn_wide (n := 3)).1 ?_
  refine wpIn_region_all (by kernel_rfl) 12 rfl (fun i => if i < 9 then some (23 + i) else if i = 9 then none else some (i - 7)) (lex_of (by kernel_rfl))
    (fun ls W' => w5.grownBy W' (some (w.heap.size + 1)) ∧ (if ls 9 = true then W'.heap[w.heap.size + 1]? = some (.cells #[.int .i64 (n : Int), .slice A5 rl.length c5] 27 (0, 0)) else W'.heap[w.heap.size + 1]? = some (.cells zero40 27 (0, 0))))
    (fun i v _ => v = [Value.pointer (some ⟨xb, 0, none⟩), .pointer (some ⟨xb, 0, none⟩), .pointer (some ⟨xb, 0, none⟩), .agg #[.int .i64 (n : Int), .slice A5 rl.length c5], .bool bl, .pointer (some ⟨xb, 0, none⟩), .pointer (some ⟨xb, 0, none⟩), .pointer (some ⟨xb, 4, none⟩), .int .i64 0, undef, .bool bl, .int .i64 0].getD i undef)
    (fun _ _ _ => True) (dm_inj (by kernel_rfl)) (fun _ _ _ _ _ _ _ _ _ h => h) (dm_lt (n := 32) (by kernel_rfl)) ⟨below_grown (Below.refl w5.heap.size w5).drew, HR5.out⟩ ?_ ?_
  · intro ls q o a w6 hq ho hS hls hcl hP hpre
    obtain ⟨hS1, hS2⟩ := hS
    have hbx := HC6.out _ hS1
    have hcases : q = 0 ∨ q = 1 ∨ q = 2 ∨ q = 3 ∨ q = 4 ∨ q = 5 ∨ q = 6 ∨ q = 7 ∨ q = 8 ∨ q = 9 ∨ q = 10 ∨ q = 11 := by
      have : q < 12 := hq
      omega
    have hkp : ∀ q, q ≠ 9 → (w5.grownBy w6 (some (w.heap.size + 1)) ∧ (if (fun j => if q = j then true else ls j) 9 = true then w6.heap[w.heap.size + 1]? = some (.cells #[.int .i64 (n : Int), .slice A5 rl.length c5] 27 (0, 0)) else w6.heap[w.heap.size + 1]? = some (.cells zero40 27 (0, 0)))) := fun q h1 => by
      simp only [if_neg h1]
      exact ⟨hS1, hS2⟩
    rcases hcases with rfl | rfl | rfl | rfl | rfl | rfl | rfl | rfl | rfl | rfl | rfl | rfl
    · obtain rfl := Option.some.inj ho
      exact wpOpIn_of rfl rfl (wpW_val (r_move (.tmp 7) rfl (hP.out 7 (dm_out (by kernel_rfl)))) ⟨_, rfl, hkp 0 (by decide), trivial, (fun h => by simp at h), rfl⟩)
    · obtain rfl := Option.some.inj ho
      exact wpOpIn_of rfl rfl (wpW_val (r_nil (.tmp 23) _ rfl (hpre ⟨0, .data⟩ (by simp) rfl).2) ⟨_, rfl, hkp 1 (by decide), trivial, (fun h => by simp at h), rfl⟩)
    · obtain rfl := Option.some.inj ho
      exact wpOpIn_of rfl rfl (wpW_val (r_fld (.tmp 24) _ rfl (hpre ⟨1, .data⟩ (by simp) rfl).2 (fld65_0 xb _)) ⟨_, rfl, hkp 2 (by decide), trivial, (fun h => by simp at h), rfl⟩)
    · obtain rfl := Option.some.inj ho
      exact wpOpIn_of rfl rfl (wpW_val (r_loadAt 27 (.tmp 25) _ _ rfl (hpre ⟨2, .data⟩ (by simp) rfl).2 (load27m hbx)) ⟨_, rfl, hkp 3 (by decide), trivial, (fun h => by simp at h), rfl⟩)
    · obtain rfl := Option.some.inj ho
      exact wpOpIn_of rfl rfl (wpW_val (r_move (.tmp 8) rfl (hP.out 8 (dm_out (by kernel_rfl)))) ⟨_, rfl, hkp 4 (by decide), trivial, (fun h => by simp at h), rfl⟩)
    · obtain rfl := Option.some.inj ho
      exact wpOpIn_of rfl rfl (wpW_val (r_move (.tmp 7) rfl (hP.out 7 (dm_out (by kernel_rfl)))) ⟨_, rfl, hkp 5 (by decide), trivial, (fun h => by simp at h), rfl⟩)
    · obtain rfl := Option.some.inj ho
      exact wpOpIn_of rfl rfl (wpW_val (r_nil (.tmp 28) _ rfl (hpre ⟨5, .data⟩ (by simp) rfl).2) ⟨_, rfl, hkp 6 (by decide), trivial, (fun h => by simp at h), rfl⟩)
    · obtain rfl := Option.some.inj ho
      exact wpOpIn_of rfl rfl (wpW_val (r_fld (.tmp 29) _ rfl (hpre ⟨6, .data⟩ (by simp) rfl).2 (fld65_3 xb _)) ⟨_, rfl, hkp 7 (by decide), trivial, (fun h => by simp at h), rfl⟩)
    · obtain rfl := Option.some.inj ho
      exact wpOpIn_of rfl rfl (wpW_val (r_load1 28 agg28w (.tmp 30) ⟨xb, 4, none⟩ rfl (hpre ⟨7, .data⟩ (by simp) rfl).2 (cells5 hbx).2.2.2.2) ⟨_, rfl, hkp 8 (by decide), trivial, (fun h => by simp at h), rfl⟩)
    · obtain rfl := Option.some.inj ho
      rw [if_neg (by rw [hls]; simp)] at hS2
      have hg6 : w6.grownBy (w6.setRow (w.heap.size + 1) #[.int .i64 (n : Int), .slice A5 rl.length c5]) (some (w.heap.size + 1)) := ⟨rfl, rfl, rfl, by rw [World.setRow]; simp, fun k _ hne => setRow_other _ _ k _ (fun e => hne (by rw [e]))⟩
      exact wpOpIn_of rfl rfl (wpW_skip (r_store40 (.tmp 2) (.tmp 26) rfl (w.heap.size + 1) zero40 #[.int .i64 (n : Int), .slice A5 rl.length c5] (hP.out 2 (dm_out (by kernel_rfl))) (hpre ⟨3, .data⟩ (by simp) rfl).2 hS2 rfl rfl (one40 A5 rl.length c5 (n : Int))) ⟨undef, rfl, ⟨grown_trans hS1 hg6, by
        rw [if_pos (by simp)]
        exact setRow_heap _ _ _ _ _ _ hS2⟩, trivial, (fun _ => rfl), rfl⟩)
    · obtain rfl := Option.some.inj ho
      exact wpOpIn_of rfl rfl (wpW_val (r_assign (.tmp 27) rfl rfl) ⟨_, rfl, hkp 10 (by decide), trivial, (fun h => by simp at h), (hpre ⟨4, .data⟩ (by simp) rfl).2⟩)
    · obtain rfl := Option.some.inj ho
      exact wpOpIn_of rfl rfl (wpW_val (r_assign (.tmp 31) rfl rfl) ⟨_, rfl, hkp 11 (by decide), trivial, (fun h => by simp at h), (hpre ⟨8, .data⟩ (by simp) rfl).2⟩)
  · intro ls a W6 hall hS hP hsl
    obtain ⟨hS1, hS2⟩ := hS
    rw [if_pos (hall 9 (by decide))] at hS2
    have e5 := hsl 10 (by decide)
    have e6 := hsl 11 (by decide)
    obtain ⟨vs, hvs, hfr⟩ := hP.frame 32 rfl
    have f5 : vs 3 = .bool bl := (hvs 3).trans e5
    have f6 : vs 4 = .int .i64 0 := (hvs 4).trans e6
    have H1 := Lib.hid hS1
    have H2 := Lib.hid hS2
    clear hsl hP hall hvs hS1 hS2 e5 e6
    subst hfr
    simp only [List.range, List.range.loop, List.map_cons, List.map_nil, List.any_cons, List.any_nil, Nat.reduceAdd, Nat.reduceBEq, Nat.reduceLT, Option.some_beq_some, Bool.or_false, if_true, if_false, List.getD_cons_zero, List.getD_cons_succ, Bool.false_or, Bool.or_true, Bool.true_or, Nat.reduceEqDiff]
    rw [f5, f6]
    clear f5 f6
    go_wp2_with fail
    try simp only [Exit.inBlock, Exit.then]
    rw [HRE.out]
    refine bodyPost_ret (results_27_3 (p := 2) (q := 3) (r := 4) rfl _ _ (w.heap.size + 1) #[.int .i64 (n : Int), .slice A5 rl.length c5] (.bool bl) (.int .i64 0) rfl rfl rfl H2.out rfl) rfl ⟨⟨A5, c5, rfl, (HS5.out.rels.keep (AgX.other H1.out HR5.out (by decide) (by decide))).tab⟩, ?_⟩
    exact (HBW4.out.trans (HB5.out.below HBW4.out.size fun k hk => by have := HZ3.out; omega)).trans ⟨H1.out.os, H1.out.tape, H1.out.output, H1.out.size, fun k hk => H1.out.block k (Nat.lt_of_lt_of_le hk (Nat.le_trans HBW4.out.size HB5.out.size)) (by simp; omega)⟩
end Go.Proofs
namespace Go.Proofs
open Go.RowKit Go.Shelf Go.Proofs.Ct Go.Proofs.Tz Go.Maps
section
variable {α : Type} {D : α → Prop} {m : Nat} {act act' : α → Nat → α}
theorem act_ext (h : Mdl m [] D act) (h' : Mdl m [] D act') (he : ∀ j, j < m → ∀ p, D p → act p (2 * j) = act' p (2 * j)) : ∀ p c, D p → c < 2 * m → act p c = act' p c := fun p c hp hc => by
  have : c = 2 * (c / 2) ∨ c = 2 * (c / 2) + 1 := by omega
  rcases this with e | e
  · rw [e]; exact he _ (by omega) p hp
  · have h1 := h.cl p c hp hc
    have h2 := h.inv p c hp hc
    generalize c / 2 = j at *
    subst e
    rw [flp_odd] at h2
    rw [he j (by omega) _ h1] at h2
    have h3 := h'.inv (act p (2 * j + 1)) (2 * j) h1 (by omega)
    rw [flp_even, h2] at h3
    exact h3.symm
theorem actW_ext (h : Mdl m [] D act) (he : ∀ p c, D p → c < 2 * m → act p c = act' p c) : ∀ (w : Ct.W) (p : α), D p → LOk m w → actW act p w = actW act' p w
  | [], _, _, _ => rfl
  | l :: w, p, hp, hw => by
    have hl := hw l (by simp)
    have hc : col l < 2 * m := by
      rcases Int.lt_or_lt_of_ne hl.2.2 with h1 | h1
      · rw [Tz.col_neg h1]; omega
      · rw [Tz.col_pos h1]; omega
    show actW act (act p (col l)) w = actW act' (act' p (col l)) w
    rw [← he p _ hp hc]
    exact actW_ext h he w _ (h.cl p _ hp hc) fun y hy => hw y (by simp [hy])
end
theorem ext_nat {a b : List Nat} (h : a.length = b.length) (k : ∀ x, x < a.length → a.getD x 0 = b.getD x 0) : a = b := by
  apply List.ext_getElem h
  intro x h1 h2
  have := k x h1
  rw [List.getD_eq_getElem?_getD, List.getD_eq_getElem?_getD, List.getElem?_eq_getElem h1, List.getElem?_eq_getElem h2] at this
  exact this
/-- the permutations that are left -/
def leftM (M : List (List Nat)) (back : List Int) : List (List Nat) := back.map fun z => M.getD (z - 1).toNat []
theorem leftM_getD {M : List (List Nat)} {back : List Int} {j : Nat} (h : j < back.length) : (leftM M back).getD j [] = M.getD (back.getD j 0 - 1).toNat [] := by
  simp [leftM, List.getD_eq_getElem?_getD, h]
structure SameL (M : List (List Nat)) (d n : Nat) (s : Sp) : Prop where
  n1 : 1 ≤ s.n
  n16 : s.n ≤ 16
  il : s.into.length = n
  bl : s.back.length = s.n
  bb : ∀ j, j < s.n → 1 ≤ s.back.getD j 0 ∧ s.back.getD j 0 ≤ n
  prm : ∀ a ∈ leftM M s.back, Prm d a
  io : ∀ i, i < n → LOk s.n (s.into.getD i [])
  ro : ∀ w ∈ s.rels, LOk s.n w
  pres : presE (s.n : Int) s.rels = 0
  sat : satB (leftM M s.back) d s.rels = true
  img : ∀ i, i < n → imgP (leftM M s.back) d (s.into.getD i []) = M.getD i []
theorem same_law {M : List (List Nat)} {d n : Nat} {rels : List Ct.W} {steps : Nat} {s : Sp} (hM : ∀ a ∈ M, Prm d a) (hn : M.length = n) (he : presE (n : Int) rels = 0) (hs : satB M d rels = true) (hE : simpE n rels steps = .inl s) : SameL M d n s := by
  have hV := vld_of he
  have hC := hV.clean
  have hst := simp_steps _ hE
  have hO := (okay0 hC).steps hst
  have hM0 : Mdl n [] (fun x => x < d) (actM M) := hn ▸ mdl_M hM
  have hfx : ∀ w ∈ cleanL rels, Fix (fun x => x < d) (actM M) w := (fix_clean hM0 hV.ok).2 fun w hw p hp => by
    obtain ⟨k, hk, rfl⟩ := List.getElem_of_mem hw
    have := satB_true.1 hs k hk p hp
    rwa [List.getD_eq_getElem?_getD, List.getElem?_eq_getElem hk] at this
  obtain ⟨act', hF⟩ := Fit.steps hst (okay0 hC) (fit0 hM0 hfx)
  have hbb : ∀ j, j < s.n → ∃ i, i < n ∧ s.back.getD j 0 = (i : Int) + 1 ∧ (leftM M s.back).getD j [] = M.getD i [] ∧ ∀ p, p < d → act' p (2 * j) = actM M p (2 * i) := fun j hj => by
    obtain ⟨i, h1, h2, h3⟩ := hF.be j hj
    exact ⟨i, h1, h2, by rw [leftM_getD (by rw [hO.bl]; exact hj), h2]; congr 1; omega, h3⟩
  have hll : (leftM M s.back).length = s.n := by rw [leftM, List.length_map, hO.bl]
  have hprm : ∀ a ∈ leftM M s.back, Prm d a := fun a ha => by
    obtain ⟨j, hj, rfl⟩ := List.getElem_of_mem ha
    obtain ⟨i, h1, -, h2, -⟩ := hbb j (by omega)
    rw [List.getD_eq_getElem?_getD, List.getElem?_eq_getElem hj] at h2
    have h3 : (leftM M s.back)[j] = M.getD i [] := h2
    rw [h3]
    exact row_prm hM (by omega)
  have hM1 : Mdl s.n [] (fun x => x < d) (actM (leftM M s.back)) := hll ▸ mdl_M hprm
  have hex : ∀ p c, p < d → c < 2 * s.n → act' p c = actM (leftM M s.back) p c := act_ext hF.m hM1 fun j hj p hp => by
    obtain ⟨i, h1, -, h2, h3⟩ := hbb j hj
    rw [h3 p hp, actM_even, actM_even, h2]
  have hexW := actW_ext hF.m hex
  have hio : ∀ i, i < n → LOk s.n (s.into.getD i []) := fun i hi => hO.io _ (by
    rw [List.getD_eq_getElem?_getD, List.getElem?_eq_getElem (by rw [hO.il]; exact hi)]
    exact List.getElem_mem _)
  refine ⟨hO.cln.n1, hO.cln.n16, hO.il, hO.bl, fun j hj => ?_, hprm, hio, hO.cln.ok, ?_, ?_, fun i hi => ?_⟩
  · obtain ⟨i, h1, h2, -⟩ := hbb j hj
    omega
  · exact presE_of ⟨hO.cln.n1, hO.cln.n16⟩ hO.cln.many hO.cln.ok hO.cln.len
  · refine satB_true.2 fun k hk x hx => ?_
    have hm : s.rels.getD k [] ∈ s.rels := by
      rw [List.getD_eq_getElem?_getD, List.getElem?_eq_getElem hk]
      exact List.getElem_mem hk
    rw [← hexW _ x hx (hO.cln.ok _ hm)]
    exact hF.fx _ hm x hx
  · have hP := row_prm hM (q := i) (by omega)
    refine ext_nat (by rw [length_imgP, hP.len]) fun x hx => ?_
    rw [length_imgP] at hx
    rw [imgP_getD hx, ← hexW _ x hx (hio i hi), hF.ie i hi x hx, actM_even]
/-- a word's powers end at the points -/
theorem word_orderM {M : List (List Nat)} {d : Nat} (hM : ∀ a ∈ M, Prm d a) (hd : d ≤ 6) {w : Ct.W} (hw : LOk M.length w) : ∃ n, 1 ≤ n ∧ n ≤ 6 ∧ ∀ x, x < d → actW (actM M) x (wpow w n) = x := by
  have h0 := mdl_M hM
  obtain ⟨n, h1, h2, h3⟩ := order_le hd (f := fun y => actW (actM M) y w) (fun _ hx => h0.clW hw hx) fun x y hx hy e => by
    have k1 := h0.invW hw hx
    have k2 := h0.invW hw hy
    have e' : actW (actM M) x w = actW (actM M) y w := e
    rw [e'] at k1
    rw [← k1, k2]
  exact ⟨n, h1, h2, fun x hx => by rw [act_wpow]; exact h3 x hx⟩
theorem sat_one {M : List (List Nat)} {d : Nat} {w : Ct.W} : satB M d [w] = true ↔ ∀ x, x < d → actW (actM M) x w = x := by
  rw [satB_true]
  exact ⟨fun h x hx => h 0 (by simp) x hx, fun h k hk x hx => by
    obtain rfl : k = 0 := by simpa using hk
    exact h x hx⟩
theorem satB_app {M : List (List Nat)} {d : Nat} {a b : List Ct.W} : satB M d (a ++ b) = (satB M d a && satB M d b) := by
  simp [satB]
/-- more permutations do not change what old letters do -/
theorem actM_app {M N : List (List Nat)} {p c : Nat} (h : c < 2 * M.length) : actM (M ++ N) p c = actM M p c := by
  unfold actM
  have : (M ++ N).getD (c / 2) [] = M.getD (c / 2) [] := by
    rw [List.getD_eq_getElem?_getD, List.getD_eq_getElem?_getD, List.getElem?_append_left (by omega)]
  rw [this]
theorem actW_appM {M N : List (List Nat)} : ∀ {w : Ct.W} {p : Nat}, LOk M.length w → actW (actM (M ++ N)) p w = actW (actM M) p w
  | [], _, _ => rfl
  | l :: w, p, h => by
    have hl := h l (by simp)
    have hc : col l < 2 * M.length := by
      rcases Int.lt_or_lt_of_ne hl.2.2 with h1 | h1
      · rw [Tz.col_neg h1]; omega
      · rw [Tz.col_pos h1]; omega
    show actW (actM (M ++ N)) (actM (M ++ N) p (col l)) w = actW (actM M) (actM M p (col l)) w
    rw [actM_app hc]
    exact actW_appM fun y hy => h y (by simp [hy])
theorem satB_appM {M N : List (List Nat)} {d : Nat} {rels : List Ct.W} (h : ∀ w ∈ rels, LOk M.length w) : satB (M ++ N) d rels = satB M d rels := by
  have hk : ∀ k, k < rels.length → LOk M.length (rels.getD k []) := fun k hk => h _ (by
    rw [List.getD_eq_getElem?_getD, List.getElem?_eq_getElem hk]
    exact List.getElem_mem hk)
  rw [Bool.eq_iff_iff, satB_true, satB_true]
  exact ⟨fun q k h1 x hx => by rw [← actW_appM (N := N) (hk k h1)]; exact q k h1 x hx, fun q k h1 x hx => by rw [actW_appM (hk k h1)]; exact q k h1 x hx⟩
/-- the image of a word is a permutation -/
theorem imgP_prm {M : List (List Nat)} {d : Nat} (hM : ∀ a ∈ M, Prm d a) {w : Ct.W} (hw : LOk M.length w) : Prm d (imgP M d w) := by
  have h0 := mdl_M hM
  refine ⟨length_imgP _ _ _, ?_, fun x hx => ?_⟩
  · unfold imgP
    refine nodup_map_on (fun x hx y hy e => ?_) List.nodup_range
    have hx' := List.mem_range.1 hx
    have hy' := List.mem_range.1 hy
    have e' : actW (actM M) x w = actW (actM M) y w := e
    rw [← h0.invW hw hx', e', h0.invW hw hy']
  · obtain ⟨y, hy, rfl⟩ := List.mem_map.1 hx
    exact h0.clW hw (List.mem_range.1 hy)
/-- a definition: the new letter is the image of its word -/
theorem sat_def {M : List (List Nat)} {d n : Nat} (hM : ∀ a ∈ M, Prm d a) (hn : M.length = n) {w : Ct.W} (hw : LOk n w) : satB (M ++ [imgP M d w]) d [w ++ [-((n : Int) + 1)]] = true := by
  subst hn
  refine sat_one.2 fun x hx => ?_
  have h0 := mdl_M hM
  rw [actW_app, actW_appM hw]
  show actM (M ++ [imgP M d w]) (actW (actM M) x w) (col (-((M.length : Int) + 1))) = x
  rw [actM_neg (q := M.length) rfl]
  have e : (M ++ [imgP M d w]).getD M.length [] = imgP M d w := by simp [List.getD_eq_getElem?_getD]
  rw [e, ← imgP_getD hx]
  exact (imgP_prm hM hw).back_get hx
end Go.Proofs
namespace Go.Proofs
open Go.RowKit Go.Shelf Go.Lib Go.Sort Go.Proofs.Ct Go.Proofs.Tz Go.Maps
/-- the box pb of a presentation (its cells nb and vb) beside the growing list v of relators; words and lists that lie in wa are kept, but for X -/
structure PS (B pb : Nat) (X F : Nat → Prop) (wa : World) (nb : Int) (vb v : Value) (R : List (List Int)) (W : World) : Prop where
  box : W.heap[pb]? = some (.cells #[.int .i64 nb, vb] 27 (0, 0))
  lo : B ≤ pb
  lt : pb < wa.heap.size
  below : Below B wa W
  ag : AgX X wa W
  out : OwnT 24 B F W v R
  fs : ∀ k, F k → B ≤ k ∧ k < W.heap.size ∧ ∃ C, W.heap[k]? = some (.cells C 3 (0, 0))
  ob : ∀ r, v.ownBlock = some r → X r ∨ wa.heap.size ≤ r
/-- a word of the call's own beside it -/
structure PSw (F : Nat → Prop) (wa : World) (u : Value) (x : List Int) (W : World) : Prop where
  row : OwnI wa.heap.size W u x
  ap : ∀ r, u.ownBlock = some r → ¬ F r
section
variable {B pb : Nat} {X F : Nat → Prop} {wa W W' : World} {nb : Int} {vb v u : Value} {R : List (List Int)} {x : List Int}
theorem PS.bnd (h : PS B pb X F wa nb vb v R W) : B ≤ W.heap.size := by have := h.lo; have := h.lt; have := h.below.size; omega
theorem PS.grown {row : Option Nat} (h : PS B pb X F wa nb vb v R W) (hg : W.grownBy W' row) (h0 : ∀ r, row = some r → r ≠ pb ∧ ¬ F r ∧ v.ownBlock ≠ some r ∧ wa.heap.size ≤ r) : PS B pb X F wa nb vb v R W' := by
  have hub := h.out.block
  refine ⟨(hg.block pb (Array.getElem?_eq_some_iff.1 h.box).1 fun e => (h0 pb e.symm).1 rfl).trans h.box, h.lo, h.lt, h.below.grown hg h.bnd (fun r hr => by have := (h0 r hr).2.2.2; have := h.lo; have := h.lt; omega), ⟨Nat.le_trans h.ag.size hg.size, fun k o ho hw hx => ?_⟩, h.out.keep (fun r hr => ?_) (Ag.grown hg fun k hk => ⟨(h.fs k hk).2.1, fun e => (h0 _ e).2.1 hk⟩) (fun _ h => h), fun k hk => ?_, h.ob⟩
  · have hlt := (Array.getElem?_eq_some_iff.1 ho).1
    have h1 := h.ag.same k o ho hw hx
    exact (hg.block k (Array.getElem?_eq_some_iff.1 h1).1 fun e => by have := (h0 k e.symm).2.2.2; omega).trans h1
  · obtain ⟨-, C, hC⟩ := hub r hr
    exact hg.block r (Array.getElem?_eq_some_iff.1 hC).1 fun e => (h0 r e.symm).2.2.1 hr
  · obtain ⟨h1, h2, C, hC⟩ := h.fs k hk
    exact ⟨h1, Nat.lt_of_lt_of_le h2 hg.size, C, grown_cells hg hC fun e => (h0 _ e).2.1 hk⟩
theorem PS.below' (h : PS B pb X F wa nb vb v R W) (hb : Below W.heap.size W W') : PS B pb X F wa nb vb v R W' :=
  h.grown (row := none) ⟨hb.os, hb.tape, hb.output, hb.size, fun k hk _ => hb.block k hk⟩ fun r hr => by cases hr
theorem PSw.below' (h : PSw F wa u x W) (hb : Below W.heap.size W W') : PSw F wa u x W' := ⟨owns_below h.row hb, h.ap⟩
theorem PSw.nil (F : Nat → Prop) (wa W : World) : PSw F wa (.slice none 0 0) [] W := ⟨World.ownsRow_nil _ _ _ _, fun r hr => by cases hr⟩
/-- the word grows by another -/
theorem PSw.cat (k : PSw F wa u x W) (h : PS B pb X F wa nb vb v R W) (t : TypeId) (ht : Try.prog.underlying t = some (.slice 3)) {z : Value} {y : List Int} (hz : IntsAt W z y) (hx : x.length ≤ 9000000) (hy : y.length ≤ 9000000) :
    ∃ A' c' W', (Builtin.append_ #[t, t] t #[u, z]).run Try.prog W = .ok (.slice A' (x ++ y).length c') W' ∧ PS B pb X F wa nb vb v R W' ∧ PSw F wa (.slice A' (x ++ y).length c') (x ++ y) W' ∧ W.grownBy W' u.ownBlock ∧ ∀ r, (Value.slice A' (x ++ y).length c').ownBlock = some r → u.ownBlock = some r ∨ W.heap.size ≤ r := by
  have hs : wa.heap.size ≤ W.heap.size := h.below.size
  obtain ⟨A', c', W', hr, ho, hg, hw⟩ := run_append_ints t t ht W wa.heap.size u z x y k.row hz hx hy hs
  have hrb := owns_block k.row
  refine ⟨A', c', W', hr, h.grown hg fun r hr' => ?_, ⟨ho, fun r hr' hF => ?_⟩, hg, fun r hr' => ?_⟩
  · obtain ⟨h1, C, hC⟩ := hrb r hr'
    refine ⟨fun e => ?_, k.ap r hr', fun e => ?_, h1⟩
    · exact (ne_type hC h.box (by decide)) e
    · obtain ⟨-, D, hD⟩ := h.out.block r e
      exact (ne_type hC hD (by decide)) rfl
  · rcases hw with e | ⟨r', e, h2⟩
    · exact k.ap r (e ▸ hr') hF
    · rw [e] at hr'
      cases hr'
      have := (h.fs _ hF).2.1
      omega
  · rcases hw with e | ⟨r', e, h2⟩
    · exact .inl (e ▸ hr')
    · rw [e] at hr'
      cases hr'
      exact .inr h2
/-- the word joins the relators -/
theorem PS.push {A : Option Addr} {n c : Nat} (h : PS B pb X F wa nb vb v R W) (k : PSw F wa (.slice A n c) x W) (hf : Fits x) (hl : R.length ≤ 9000000) :
    ∃ A' c' W', (Builtin.append_ #[25, 25] 25 #[v, .slice (some ⟨W.heap.size, 0, none⟩) 1 1]).run Try.prog (W.alloc (.cells #[.slice A n c] 24)) = .ok (.slice A' (R.length + 1) c') W' ∧ PS B pb X (fun r => F r ∨ (Value.slice A n c).ownBlock = some r) wa nb vb (.slice A' (R.length + 1) c') (R ++ [x]) W' ∧ W.grownBy W' v.ownBlock := by
  have hs : wa.heap.size ≤ W.heap.size := h.below.size
  have hBs : B ≤ wa.heap.size := by have := h.lo; have := h.lt; omega
  have hub := h.out.block
  have hrb := owns_block k.row
  have hF2 : ∀ r, (F r ∨ (Value.slice A n c).ownBlock = some r) → r < W.heap.size ∧ v.ownBlock ≠ some r := fun r hr => by
    rcases hr with hr | hr
    · obtain ⟨h1, h2, C, hC⟩ := h.fs r hr
      refine ⟨h2, fun e => ?_⟩
      obtain ⟨-, D, hD⟩ := hub r e
      exact (ne_type hC hD (by decide)) rfl
    · obtain ⟨h1, C, hC⟩ := hrb r hr
      refine ⟨(Array.getElem?_eq_some_iff.1 hC).1, fun e => ?_⟩
      obtain ⟨-, D, hD⟩ := hub r e
      exact (ne_type hC hD (by decide)) rfl
  obtain ⟨A', c', W', hr, ho', hg, hw⟩ := push_row (t := 25) (ty := 25) Try.underlying25 info25p W B (fun r => F r ∨ (Value.slice A n c).ownBlock = some r) v R (h.out.keep (fun _ _ => rfl) (Ag.refl _ _) (fun r hr => .inl hr)) A n c x ((IntsF.of_own k.row hf).mono fun r hr => .inr hr) hF2 (by omega) h.bnd
  have hne : ∀ r, v.ownBlock = some r → r ≠ pb := fun r hr e => by
    obtain ⟨-, C, hC⟩ := hub r hr
    exact (ne_type hC h.box (by decide)) e
  refine ⟨A', c', W', hr, ⟨(hg.block pb (Array.getElem?_eq_some_iff.1 h.box).1 fun e => hne pb e.symm rfl).trans h.box, h.lo, h.lt, h.below.grown hg h.bnd (fun r hr => (hub r hr).1), ⟨Nat.le_trans h.ag.size hg.size, fun q o ho hw' hx => ?_⟩, ho', fun r hr => ?_, fun r hr' => ?_⟩, hg⟩
  · have hlt := (Array.getElem?_eq_some_iff.1 ho).1
    have h1 := h.ag.same q o ho hw' hx
    refine (hg.block q (Array.getElem?_eq_some_iff.1 h1).1 fun e => ?_).trans h1
    rcases h.ob q e.symm with h2 | h2
    · exact hx h2
    · omega
  · have h2 := hF2 r hr
    rcases hr with hr | hr
    · obtain ⟨h1, -, C, hC⟩ := h.fs r hr
      exact ⟨h1, Nat.lt_of_lt_of_le h2.1 hg.size, C, grown_cells hg hC h2.2⟩
    · obtain ⟨h1, C, hC⟩ := hrb r hr
      exact ⟨by omega, Nat.lt_of_lt_of_le h2.1 hg.size, C, grown_cells hg hC h2.2⟩
  · rcases hw with e | ⟨r', e, h2⟩
    · exact h.ob r (e ▸ hr')
    · rw [e] at hr'
      cases hr'
      exact .inr (by omega)
/-- a cell of the box is written -/
theorem PS.put {k : Nat} {z : Value} (h : PS B pb X F wa nb vb v R W) {nb' : Int} {vb' : Value} (e : (#[.int .i64 nb, vb] : Array Value).setIfInBounds k z = #[.int .i64 nb', vb']) : PS B pb X F wa nb' vb' v R (W.setCell ⟨pb, k, none⟩ z) := by
  have hg : W.grownBy (W.setCell ⟨pb, k, none⟩ z) (some pb) := grown_setCell W pb k z
  have hub := h.out.block
  refine ⟨by rw [← e]; exact heap_set5 h.box, h.lo, h.lt, h.below.grown hg h.bnd (fun r hr => by cases hr; exact h.lo), ⟨Nat.le_trans h.ag.size hg.size, fun q o ho hw hx => ?_⟩, h.out.keep (fun r hr => ?_) (Ag.grown hg fun k hk => ⟨(h.fs k hk).2.1, fun e => ?_⟩) (fun _ h => h), fun k hk => ?_, h.ob⟩
  · have h1 := h.ag.same q o ho hw hx
    refine (hg.block q (Array.getElem?_eq_some_iff.1 h1).1 fun e => ?_).trans h1
    obtain rfl := Option.some.inj e
    rw [h.box] at h1
    obtain ⟨C, t, fr, rfl, ht⟩ := hw
    injection h1 with h1
    injection h1 with _ h2 _
    subst h2
    revert ht
    decide
  · obtain ⟨-, C, hC⟩ := hub r hr
    exact hg.block r (Array.getElem?_eq_some_iff.1 hC).1 fun e => (ne_type hC h.box (by decide)) (Option.some.inj e)
  · obtain ⟨-, -, C, hC⟩ := h.fs _ hk
    exact (ne_type hC h.box (by decide)) (Option.some.inj e).symm
  · obtain ⟨h1, h2, C, hC⟩ := h.fs k hk
    exact ⟨h1, Nat.lt_of_lt_of_le h2 hg.size, C, grown_cells hg hC fun e => (ne_type hC h.box (by decide)) (Option.some.inj e).symm⟩
theorem PS.tab (h : PS B pb X F wa nb vb v R W) : Tab W v R := OwnT.tab h.out
end
end Go.Proofs
namespace Go.Proofs
open Go.RowKit Go.Shelf Go.Lib Go.Sort Go.Proofs.Ct Go.Proofs.Tz Go.Maps
theorem bl3 {a b c : World} (h1 : Below a.heap.size a b) (h2 : Below b.heap.size b c) : Below a.heap.size a c := h1.trans (h2.mono h1.size)
theorem below_sz {w W : World} {o : Obj} (h : Below (w.heap.size + 1) (w.alloc o) W) : Below (w.alloc o).heap.size (w.alloc o) W := by rw [World.size_alloc]; exact h
theorem lit1 (w : World) (x : List Int) (hx : Fits x) {n : Nat} (hn : x.length = n) (hm : n ≤ 1000) {e : TypeId} :
    Tab ((w.alloc (.cells (ints x).toArray 3)).alloc (.cells #[.slice (some ⟨w.heap.size, 0, none⟩) n n] e)) (.slice (some ⟨w.heap.size + 1, 0, none⟩) 1 1) [x] := by
  have h1 := ints_lit w x hx n hn hm
  have hb : Below (w.alloc (.cells (ints x).toArray 3)).heap.size (w.alloc (.cells (ints x).toArray 3)) ((w.alloc (.cells (ints x).toArray 3)).alloc (.cells #[.slice (some ⟨w.heap.size, 0, none⟩) n n] e)) := (Below.refl _ _).alloc (Nat.le_refl _) _
  have h2 := heap_alloc_new (w.alloc (.cells (ints x).toArray 3)) (.cells #[.slice (some ⟨w.heap.size, 0, none⟩) n n] e)
  rw [World.size_alloc] at h2
  exact tab_blk (us := [.slice (some ⟨w.heap.size, 0, none⟩) n n]) h2 rfl rfl (by simp) fun i hi => by
    have : i = 0 := by simpa using hi
    subst this
    exact IntsAt.below h1 hb
theorem lit1_below (w : World) (x : List Int) (n : Nat) {e : TypeId} : Below w.heap.size w ((w.alloc (.cells (ints x).toArray 3)).alloc (.cells #[.slice (some ⟨w.heap.size, 0, none⟩) n n] e)) :=
  ((Below.refl _ _).alloc (Nat.le_refl _) _).alloc (by simp) _
theorem lit2 (w : World) (x y : List Int) (hx : Fits x) (hy : Fits y) {n m : Nat} (hn : x.length = n) (hm : y.length = m) (hs : n ≤ 1000 ∧ m ≤ 1000) {e : TypeId} :
    Tab (((w.alloc (.cells (ints x).toArray 3)).alloc (.cells (ints y).toArray 3)).alloc (.cells #[.slice (some ⟨w.heap.size, 0, none⟩) n n, .slice (some ⟨w.heap.size + 1, 0, none⟩) m m] e)) (.slice (some ⟨w.heap.size + 1 + 1, 0, none⟩) 2 2) [x, y] := by
  have h1 := ints_lit w x hx n hn hs.1
  have h2 := ints_lit (w.alloc (.cells (ints x).toArray 3)) y hy m hm hs.2
  have hb1 : Below (w.alloc (.cells (ints x).toArray 3)).heap.size (w.alloc (.cells (ints x).toArray 3)) ((w.alloc (.cells (ints x).toArray 3)).alloc (.cells (ints y).toArray 3)) := (Below.refl _ _).alloc (Nat.le_refl _) _
  have hb2 := (Below.refl _ ((w.alloc (.cells (ints x).toArray 3)).alloc (.cells (ints y).toArray 3))).alloc (Nat.le_refl _) (.cells #[.slice (some ⟨w.heap.size, 0, none⟩) n n, .slice (some ⟨w.heap.size + 1, 0, none⟩) m m] e)
  have h3 := heap_alloc_new ((w.alloc (.cells (ints x).toArray 3)).alloc (.cells (ints y).toArray 3)) (.cells #[.slice (some ⟨w.heap.size, 0, none⟩) n n, .slice (some ⟨w.heap.size + 1, 0, none⟩) m m] e)
  simp only [World.size_alloc] at h2 h3
  exact tab_blk (us := [.slice (some ⟨w.heap.size, 0, none⟩) n n, .slice (some ⟨w.heap.size + 1, 0, none⟩) m m]) h3 rfl rfl (by simp) fun i hi => by
    have : i = 0 ∨ i = 1 := by simp at hi; omega
    rcases this with rfl | rfl
    · exact (h1.below hb1).below hb2
    · exact h2.below hb2
theorem lit2_below (w : World) (x y : List Int) (n m : Nat) {e : TypeId} : Below w.heap.size w (((w.alloc (.cells (ints x).toArray 3)).alloc (.cells (ints y).toArray 3)).alloc (.cells #[.slice (some ⟨w.heap.size, 0, none⟩) n n, .slice (some ⟨w.heap.size + 1, 0, none⟩) m m] e)) :=
  (((Below.refl _ _).alloc (Nat.le_refl _) _).alloc (by simp) _).alloc (by simp; omega) _
theorem lit3 (w : World) (x y z : List Int) (hx : Fits x) (hy : Fits y) (hz : Fits z) {n m l : Nat} (hn : x.length = n) (hm : y.length = m) (hl : z.length = l) (hs : n ≤ 1000 ∧ m ≤ 1000 ∧ l ≤ 1000) {e : TypeId} :
    Tab ((((w.alloc (.cells (ints x).toArray 3)).alloc (.cells (ints y).toArray 3)).alloc (.cells (ints z).toArray 3)).alloc (.cells #[.slice (some ⟨w.heap.size, 0, none⟩) n n, .slice (some ⟨w.heap.size + 1, 0, none⟩) m m, .slice (some ⟨w.heap.size + 1 + 1, 0, none⟩) l l] e)) (.slice (some ⟨w.heap.size + 1 + 1 + 1, 0, none⟩) 3 3) [x, y, z] := by
  have h1 := ints_lit w x hx n hn hs.1
  have h2 := ints_lit (w.alloc (.cells (ints x).toArray 3)) y hy m hm hs.2.1
  have h3 := ints_lit ((w.alloc (.cells (ints x).toArray 3)).alloc (.cells (ints y).toArray 3)) z hz l hl hs.2.2
  have h4 := tab_three _ _ _ _ _ _ _ (h1.below (((Below.refl _ _).alloc (Nat.le_refl _) _).alloc (by simp) _)) (h2.below ((Below.refl _ _).alloc (Nat.le_refl _) _)) h3 (e := e)
  simp only [World.size_alloc] at h4
  exact h4
theorem lit3_below (w : World) (x y z : List Int) (n m l : Nat) {e : TypeId} : Below w.heap.size w ((((w.alloc (.cells (ints x).toArray 3)).alloc (.cells (ints y).toArray 3)).alloc (.cells (ints z).toArray 3)).alloc (.cells #[.slice (some ⟨w.heap.size, 0, none⟩) n n, .slice (some ⟨w.heap.size + 1, 0, none⟩) m m, .slice (some ⟨w.heap.size + 1 + 1, 0, none⟩) l l] e)) :=
  ((((Below.refl _ _).alloc (Nat.le_refl _) _).alloc (by simp) _).alloc (by simp; omega) _).alloc (by simp; omega) _
theorem lit4 (w : World) (x y z q : List Int) (hx : Fits x) (hy : Fits y) (hz : Fits z) (hq : Fits q) {n m l k : Nat} (hn : x.length = n) (hm : y.length = m) (hl : z.length = l) (hk : q.length = k) (hs : n ≤ 1000 ∧ m ≤ 1000 ∧ l ≤ 1000 ∧ k ≤ 1000) {e : TypeId} :
    Tab (((((w.alloc (.cells (ints x).toArray 3)).alloc (.cells (ints y).toArray 3)).alloc (.cells (ints z).toArray 3)).alloc (.cells (ints q).toArray 3)).alloc (.cells #[.slice (some ⟨w.heap.size, 0, none⟩) n n, .slice (some ⟨w.heap.size + 1, 0, none⟩) m m, .slice (some ⟨w.heap.size + 1 + 1, 0, none⟩) l l, .slice (some ⟨w.heap.size + 1 + 1 + 1, 0, none⟩) k k] e)) (.slice (some ⟨w.heap.size + 1 + 1 + 1 + 1, 0, none⟩) 4 4) [x, y, z, q] := by
  have h1 := ints_lit w x hx n hn hs.1
  have h2 := ints_lit (w.alloc (.cells (ints x).toArray 3)) y hy m hm hs.2.1
  have h3 := ints_lit ((w.alloc (.cells (ints x).toArray 3)).alloc (.cells (ints y).toArray 3)) z hz l hl hs.2.2.1
  have h4 := ints_lit (((w.alloc (.cells (ints x).toArray 3)).alloc (.cells (ints y).toArray 3)).alloc (.cells (ints z).toArray 3)) q hq k hk hs.2.2.2
  have b : ∀ (W : World) (o : Obj), Below W.heap.size W (W.alloc o) := fun W o => (Below.refl _ _).alloc (Nat.le_refl _) _
  have h5 := heap_alloc_new ((((w.alloc (.cells (ints x).toArray 3)).alloc (.cells (ints y).toArray 3)).alloc (.cells (ints z).toArray 3)).alloc (.cells (ints q).toArray 3)) (.cells #[.slice (some ⟨w.heap.size, 0, none⟩) n n, .slice (some ⟨w.heap.size + 1, 0, none⟩) m m, .slice (some ⟨w.heap.size + 1 + 1, 0, none⟩) l l, .slice (some ⟨w.heap.size + 1 + 1 + 1, 0, none⟩) k k] e)
  simp only [World.size_alloc] at h2 h3 h4 h5
  exact tab_blk (us := [.slice (some ⟨w.heap.size, 0, none⟩) n n, .slice (some ⟨w.heap.size + 1, 0, none⟩) m m, .slice (some ⟨w.heap.size + 1 + 1, 0, none⟩) l l, .slice (some ⟨w.heap.size + 1 + 1 + 1, 0, none⟩) k k]) h5 rfl rfl (by simp) fun i hi => by
    have : i = 0 ∨ i = 1 ∨ i = 2 ∨ i = 3 := by simp at hi; omega
    rcases this with rfl | rfl | rfl | rfl
    · exact (((h1.below (b _ _)).below (b _ _)).below (b _ _)).below (b _ _)
    · exact ((h2.below (b _ _)).below (b _ _)).below (b _ _)
    · exact (h3.below (b _ _)).below (b _ _)
    · exact h4.below (b _ _)
theorem lit4_below (w : World) (x y z q : List Int) (n m l k : Nat) {e : TypeId} : Below w.heap.size w (((((w.alloc (.cells (ints x).toArray 3)).alloc (.cells (ints y).toArray 3)).alloc (.cells (ints z).toArray 3)).alloc (.cells (ints q).toArray 3)).alloc (.cells #[.slice (some ⟨w.heap.size, 0, none⟩) n n, .slice (some ⟨w.heap.size + 1, 0, none⟩) m m, .slice (some ⟨w.heap.size + 1 + 1, 0, none⟩) l l, .slice (some ⟨w.heap.size + 1 + 1 + 1, 0, none⟩) k k] e)) :=
  (((((Below.refl _ _).alloc (Nat.le_refl _) _).alloc (by simp) _).alloc (by simp; omega) _).alloc (by simp; omega) _).alloc (by simp; omega) _
/-- Simplify at given arguments -/
theorem simpK (n : Nat) (rels : List (List Int)) (steps : Nat) (m : Nat) (R I : List (List Int)) (B : List Int) (a b c : Nat) (h1 : presE n rels = 0) (h2 : simpE n rels steps = .inl ⟨m, R, I, B⟩) (hs : steps ≤ 1000) (ha : R.length = a) (hb : I.length = b) (hc : B.length = c) (W : World) (vr : Value) (hr : Tab W vr rels) :
    Calls Try.prog 10 #[.agg #[.int .i64 (n : Int), vr], .int .i64 (steps : Int)] W fun e w' => (∃ A1 c1 A2 c2 A3 c3, e = .returned (.tuple #[.agg #[.int .i64 (m : Int), .slice A1 a c1], .slice A2 b c2, .slice A3 c c3, .int .i64 0]) ∧ Tab w' (.slice A1 a c1) R ∧ Tab w' (.slice A2 b c2) I ∧ IntsAt w' (.slice A3 c c3) B) ∧ Below W.heap.size W w' :=
  (simplify10_ok W vr n rels steps hr h1 hs).mono fun e w' ⟨h, hB⟩ => by
    rw [h2] at h
    subst ha hb hc
    obtain ⟨A, a, B, b, C, c, e1, t1, t2, t3⟩ := h
    exact ⟨⟨A, a, B, b, C, c, e1, t1, t2, t3⟩, hB⟩
/-- Eliminate at given arguments -/
theorem elimK (n : Nat) (rels : List (List Int)) (rel gen : Nat) (R I : List (List Int)) (m : Int) (a b : Nat) (h1 : presE n rels = 0) (h2 : elimE n rels rel gen = .inl (R, I)) (hr : rel < rels.length) (hg : 1 ≤ gen ∧ gen ≤ n) (hm : (n : Int) - 1 = m) (ha : R.length = a) (hb : I.length = b) (W : World) (vr : Value) (hR : Tab W vr rels) :
    Calls Try.prog 6 #[.agg #[.int .i64 (n : Int), vr], .int .i64 (rel : Int), .int .i64 (gen : Int)] W fun e w' => (∃ A1 c1 A2 c2, e = .returned (.tuple #[.agg #[.int .i64 m, .slice A1 a c1], .slice A2 b c2, .int .i64 0]) ∧ Tab w' (.slice A1 a c1) R ∧ Tab w' (.slice A2 b c2) I) ∧ Below W.heap.size W w' :=
  (elim6_any W vr n rels rel gen hR h1 hr hg).mono fun e w' ⟨h, hB⟩ => by
    rw [h2] at h
    subst ha hb hm
    obtain ⟨A, c, F, B, d, G, e1, t1, t2⟩ := h
    exact ⟨⟨A, c, B, d, e1, OwnT.tab t1.out, OwnT.tab t2.out⟩, hB⟩
theorem elimK' (n : Nat) (rels : List (List Int)) (rel gen : Nat) (x : Int) (h1 : presE n rels = 0) (h2 : elimE n rels rel gen = .inr x) (hr : rel < rels.length) (hg : 1 ≤ gen ∧ gen ≤ n) (W : World) (vr : Value) (hR : Tab W vr rels) :
    Calls Try.prog 6 #[.agg #[.int .i64 (n : Int), vr], .int .i64 (rel : Int), .int .i64 (gen : Int)] W fun e w' => e = .returned (.tuple #[.agg #[.int .i64 0, .slice none 0 0], .slice none 0 0, .int .i64 x]) ∧ Below W.heap.size W w' :=
  (elim6_any W vr n rels rel gen hR h1 hr hg).mono fun e w' ⟨h, hB⟩ => by
    rw [h2] at h
    exact ⟨h, hB⟩
/-- Shorten at given arguments -/
theorem shortK (n : Nat) (rels : List (List Int)) (R : List (List Int)) (is : Bool) (a : Nat) (h1 : presE n rels = 0) (h2 : shortenE rels = (R, is)) (ha : R.length = a) (W : World) (vr : Value) (hR : Tab W vr rels) :
    Calls Try.prog 9 #[.agg #[.int .i64 (n : Int), vr]] W fun e w' => (∃ A c, e = .returned (.tuple #[.agg #[.int .i64 (n : Int), .slice A a c], .bool is, .int .i64 0]) ∧ Tab w' (.slice A a c) R) ∧ Below W.heap.size W w' :=
  (shorten9_ok W vr n rels hR h1).mono fun e w' ⟨h, hB⟩ => by
    rw [h2] at h
    subst ha
    exact ⟨h, hB⟩
theorem sameK {W : World} {va vb : Value} {g : Int} {A : List (List Int)} (ha : Tab W va A) (hb : Tab W vb A) : Calls Try.prog 7 #[.agg #[.int .i64 g, va], .agg #[.int .i64 g, vb]] W fun e w' => e = .returned (.bool true) ∧ Below W.heap.size W w' :=
  (same26_any W va vb g g A A ha hb).mono fun e w' ⟨h1, h2⟩ => ⟨h1.trans (ret_bool (by simp)), h2⟩
theorem equalK {W : World} {va vb : Value} {A : List (List Int)} (ha : Tab W va A) (hb : Tab W vb A) : Calls Try.prog 8 #[va, vb] W fun e w' => e = .returned (.bool true) ∧ Below W.heap.size W w' :=
  (equal8_any W va vb A A ha hb).mono fun e w' ⟨h1, h2⟩ => ⟨h1.trans (ret_bool (by simp)), h2⟩
theorem numbersK {W : World} {va vb : Value} {A : List Int} (ha : IntsAt W va A) (hb : IntsAt W vb A) : Calls Try.prog 11 #[va, vb] W fun e w' => e = .returned (.bool true) ∧ Below W.heap.size W w' :=
  (numbers11_any W va vb A A ha hb).mono fun e w' ⟨h1, h2⟩ => ⟨h1.trans (ret_bool (by simp)), h2⟩
theorem pres_awake : presE 3 [[3, -2, -1], [1, 1], [2, 2, 2], [3, 3]] = 0 := by decide +kernel
theorem simp_awake : simpE 3 [[3, -2, -1], [1, 1], [2, 2, 2], [3, 3]] 100 = .inl ⟨2, [[1, 1], [2, 2, 2], [1, 2, 1, 2]], [[1], [2], [1, 2]], [1, 2]⟩ := by kernel_rfl
end Go.Proofs
namespace Go.Proofs
open Go.RowKit Go.Shelf Go.Lib Go.Sort Go.Proofs.Ct Go.Proofs.Tz Go.Maps
set_option maxRecDepth 100000 in
set_option maxHeartbeats 4000000 in
theorem awake12_any (w : World) : Calls Try.prog 12 #[] w fun e w' => e = .returned (.bool true) ∧ Below w.heap.size w w' := by
  have HS1 := Lib.hid (simpK 3 [[3, -2, -1], [1, 1], [2, 2, 2], [3, 3]] 100 2 [[1, 1], [2, 2, 2], [1, 2, 1, 2]] [[1], [2], [1, 2]] [1, 2] 3 3 2 pres_awake simp_awake (by decide) rfl rfl rfl)
  go_enter Try.func12, Try.ntmps12
  have HB0 := Lib.hid (Below.refl w.heap.size w)
  have ht := lit4 w [3, -2, -1] [1, 1] [2, 2, 2] [3, 3] (fits_lit (by decide)) (fits_lit (by decide)) (fits_lit (by decide)) (fits_lit (by decide)) rfl rfl rfl rfl (by decide) (e := 24)
  have hx := lit4_below w [3, -2, -1] [1, 1] [2, 2, 2] [3, 3] 3 2 3 2 (e := 24)
  have HT1 := Lib.hid ht
  have HL2 := Lib.hid hx
  clear ht hx
  have HB3 := Lib.hid (bl3 HB0.out HL2.out)
  clear HB0
  go_wp2_with fail
  refine (HS1.out _ _ HT1.out).mono ?_
  rintro e v4 ⟨⟨A1, c1, A2, c2, A3, c3, rfl, t1, t2, t3⟩, hb⟩
  have HB5 := Lib.hid (bl3 HB3.out hb)
  have HF6 := Lib.hid (kept_tab.below HT1.out hb)
  clear HT1
  clear HB3
  have HF7 := Lib.hid t1
  clear t1
  have HF8 := Lib.hid t2
  clear t2
  have HF9 := Lib.hid t3
  clear t3
  clear hb
  clear HF6
  have HN10 : Hid ((v4.alloc (.cells #[.int .i64 2, .slice A1 3 c1] 27)).heap[v4.heap.size]? = some (.cells #[.int .i64 2, .slice A1 3 c1] 27 (0, 0))) := Lib.hid (heap_alloc_new _ _)
  have HL11 : Hid (Below v4.heap.size v4 (v4.alloc (.cells #[.int .i64 2, .slice A1 3 c1] 27))) := Lib.hid ((Below.refl _ _).alloc (Nat.le_refl _) _)
  have HB12 := Lib.hid (bl3 HB5.out HL11.out)
  have HF13 := Lib.hid (kept_tab.below HF7.out HL11.out)
  clear HF7
  have HF14 := Lib.hid (kept_tab.below HF8.out HL11.out)
  clear HF8
  have HF15 := Lib.hid (IntsAt.below HF9.out HL11.out)
  clear HF9
  clear HB5
  clear HL11
  have ht := lit3 (v4.alloc (.cells #[.int .i64 2, .slice A1 3 c1] 27)) [1, 1] [2, 2, 2] [1, 2, 1, 2] (fits_lit (by decide)) (fits_lit (by decide)) (fits_lit (by decide)) rfl rfl rfl (by decide) (e := 24)
  have hx := lit3_below (v4.alloc (.cells #[.int .i64 2, .slice A1 3 c1] 27)) [1, 1] [2, 2, 2] [1, 2, 1, 2] 2 3 4 (e := 24)
  simp only [World.size_alloc] at ht hx
  replace hx := below_sz hx
  have HT16 := Lib.hid ht
  have HL17 := Lib.hid hx
  clear ht hx
  have HB18 := Lib.hid (bl3 HB12.out HL17.out)
  have HF19 := Lib.hid (kept_tab.below HF13.out HL17.out)
  clear HF13
  have HF20 := Lib.hid (kept_tab.below HF14.out HL17.out)
  clear HF14
  have HF21 := Lib.hid (IntsAt.below HF15.out HL17.out)
  clear HF15
  have HF22 := Lib.hid ((HL17.out.block _ (Array.getElem?_eq_some_iff.1 HN10.out).1).trans HN10.out)
  clear HN10
  clear HB12
  go_wp2_with (first
    | ((with_reducible refine wpList_sel 20 ?_); refine wpList_val rfl (r_loadAt 27 (.tmp 1) _ _ rfl rfl (load40 HN10.out)) ?_))
  refine (sameK HF19.out HT16.out).mono ?_
  rintro e v23 ⟨rfl, hb⟩
  have HB24 := Lib.hid (bl3 HB18.out hb)
  have HF25 := Lib.hid (kept_tab.below HF19.out hb)
  clear HF19
  have HF26 := Lib.hid (kept_tab.below HF20.out hb)
  clear HF20
  have HF27 := Lib.hid (IntsAt.below HF21.out hb)
  clear HF21
  have HF28 := Lib.hid ((hb.block _ (Array.getElem?_eq_some_iff.1 HF22.out).1).trans HF22.out)
  clear HF22
  have HF29 := Lib.hid (kept_tab.below HT16.out hb)
  clear HT16
  clear HB18
  clear hb
  clear HF29
  clear HF25
  clear HF28
  have ht := lit3 v23 [1] [2] [1, 2] (fits_lit (by decide)) (fits_lit (by decide)) (fits_lit (by decide)) rfl rfl rfl (by decide) (e := 24)
  have hx := lit3_below v23 [1] [2] [1, 2] 1 1 2 (e := 24)
  have HT30 := Lib.hid ht
  have HL31 := Lib.hid hx
  clear ht hx
  have HB32 := Lib.hid (bl3 HB24.out HL31.out)
  have HF33 := Lib.hid (kept_tab.below HF26.out HL31.out)
  clear HF26
  have HF34 := Lib.hid (IntsAt.below HF27.out HL31.out)
  clear HF27
  clear HB24
  go_wp2_with fail
  refine (equalK HF33.out HT30.out).mono ?_
  rintro e v35 ⟨rfl, hb⟩
  have HB36 := Lib.hid (bl3 HB32.out hb)
  have HF37 := Lib.hid (kept_tab.below HF33.out hb)
  clear HF33
  have HF38 := Lib.hid (IntsAt.below HF34.out hb)
  clear HF34
  have HF39 := Lib.hid (kept_tab.below HT30.out hb)
  clear HT30
  clear HB32
  clear hb
  clear HF39
  clear HF37
  have HT40 := Lib.hid (ints_lit v35 [1, 2] (fits_lit (by decide)) 2 rfl (by decide))
  have HL41 : Hid (Below v35.heap.size v35 (v35.alloc (.cells (ints [1, 2]).toArray 3))) := Lib.hid ((Below.refl _ _).alloc (Nat.le_refl _) _)
  have HB42 := Lib.hid (bl3 HB36.out HL41.out)
  have HF43 := Lib.hid (IntsAt.below HF38.out HL41.out)
  clear HF38
  clear HB36
  go_wp2_with fail
  refine (numbersK HF43.out HT40.out).mono ?_
  rintro e v44 ⟨rfl, hb⟩
  have HB45 := Lib.hid (bl3 HB42.out hb)
  have HF46 := Lib.hid (IntsAt.below HF43.out hb)
  clear HF43
  have HF47 := Lib.hid (IntsAt.below HT40.out hb)
  clear HT40
  clear HB42
  clear hb
  clear HF47
  clear HF46
  go_wp2_with fail
  go_ret
  exact ⟨rfl, HB45.out⟩
end Go.Proofs
