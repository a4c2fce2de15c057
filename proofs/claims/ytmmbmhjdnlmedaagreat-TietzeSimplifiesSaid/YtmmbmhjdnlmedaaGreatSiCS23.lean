/- tietze.Shorten; TietzeSame: the presentation in its box as its relators are joined. -/
import Derived.Test.YtmmbmhjdnlmedaaGreatSiCS22
import Derived.Test.YtmmbmhjdnlmedaaGreatSiCS17
namespace Go.Proofs
open Go.RowKit Go.Shelf Go.Lib Go.Sort Go.Proofs.Ct Go.Proofs.Tz Go.Maps
def shortenE (rels : List (List Int)) : List (List Int) × Bool :=
 match shortF (cleanL rels) with
 | some l => (l,true)
 | none => (cleanL rels,false)
def ShortenPost (n : Nat) (rels : List (List Int)) (w : World) (e : Ending) (w' : World) : Prop :=
 (∃ A c,e = .returned (.tuple #[.agg #[.int .i64 (n : Int), .slice A (shortenE rels).1.length c], .bool (shortenE rels).2, .int .i64 0]) /\ Tab w' (.slice A (shortenE rels).1.length c) (shortenE rels).1) /\ Below w.heap.size w w'
theorem results_27_3 {fn : Func} {p q r : Tmp} (h : fn.results = #[.cell p 24, .tmp q, .tmp r]) (tmps : Array Value) (w : World) (g : Nat) (cs : Array Value) (u v : Value)
   (hp : tmps.getD p undef = .pointer (some ⟨g,0,none⟩)) (hq : tmps.getD q undef = u) (hr : tmps.getD r undef = v) (hg : w.heap[g]? = some (.cells cs 24 (0,0))) (hs : cs.size = 2) :
   (results fn tmps).run Tryz.prog w = .ok (.tuple #[.agg cs,u,v]) w := by
 have hp' : tmps[p]?.getD undef = .pointer (some ⟨g,0,none⟩) := by simpa using hp
 have hq' : tmps[q]?.getD undef = u := by simpa using hq
 have hr' : tmps[r]?.getD undef = v := by simpa using hr
 simp [results,h,hp',hq',hr',asAddr,run_loadVar_row w g 24 24 cs (0,0) _ hg Tryz.underlying24 rfl (by rw [hs]; exact info40s)]
theorem sh28_end {base xb : Nat} {n : Nat} {rels cl : List (List Int)} {A : Option Addr} {c : Nat} {w w' : World} {e : Ending} (hcl : cleanL rels = cl) (hS : StX base xb ⟨n,cl, [], []⟩ 0 w A c none 0 none 0) (h : Sh28 base xb ⟨n,cl, [], []⟩ none 0 none 0 w e w') :
   e = .returned (.bool (shortenE rels).2) /\ (∃ A' c',StX base xb ⟨n,(shortenE rels).1, [], []⟩ 0 w' A' c' none 0 none 0) /\ BelX (fun k => k = xb) w w' := by
 unfold Sh28 at h
 unfold shortenE
 rw [hcl]
 split at h
 · rename_i q
   simp only at q
   rw [q]
   exact ⟨h.1,⟨_,_,hS.below h.2⟩,BelX.of_below h.2⟩
 · rename_i l q
   simp only at q
   rw [q]
   refine ⟨h.1,h.2.1, ?_⟩
   obtain ⟨h1,h2,h3,h4,h5⟩ := h.2.2
   exact ⟨h1,h2,h3,h4,fun k hk hx => h5 k hk fun hx' => by
     rcases hx' with rfl | hx'
     · exact hx rfl
     · cases hx'⟩
set_option maxRecDepth 100000 in
set_option maxHeartbeats 4000000 in
theorem shorten9_ok (w : World) (vr : Value) (n : Nat) (rels : List (List Int)) (hR : Tab w vr rels) (he : presE n rels = 0) : Calls Tryz.prog 16 #[.agg #[.int .i64 (n : Int),vr]] w (ShortenPost n rels w) := by
 obtain ⟨Ar,cr,rfl⟩ := Tab.form hR
 have H26 : Hid (∀ W,Tab W (.slice Ar rels.length cr) rels -> Calls Tryz.prog 23 #[.agg #[.int .i64 (n : Int), .slice Ar rels.length cr]] W (CleanPost (n : Int) rels W)) := Lib.hid fun W h => clean26_ok W _ (n : Int) rels h he
 have HV : Hid (Vld n rels) := Lib.hid (vld_of he)
 have HBN := Lib.hid (ElBox.new w n Ar cr rels.length)
 have HRR := Lib.hid hR
 unfold CleanPost at H26
 unfold ShortenPost
 clear hR he
 go_enter Tryz.func16,Tryz.ntmps16
 go_wp2_with ((with_reducible refine wpList_sel 2 ?_); refine wpList_val rfl (r_alloc40 rfl) ?_)
 generalize hw0 : (w.alloc (.cells #[.int .i64 (n : Int), .slice Ar rels.length cr] 24)).alloc (.cells zero40 24) = w0 at *
 have HBX := Lib.hid fun W (hb : Below w0.heap.size w0 W) => HBN.out.at_ hb
 have HB0 := Lib.hid HBN.out.below
 have HBP := Lib.hid HBN.out.arg
 have HZ0 := Lib.hid HBN.out.size
 have HC := Lib.hid (H26.out w0 (kept_tab.below HRR.out HB0.out))
 clear hw0 HRR H26
 generalize hcl : cleanL rels = cl at *
 go_upto_region 4 with (first
   | ((with_reducible refine wpList_sel 10 ?_); refine wpList_val rfl (r_loadAt 24 (.tmp 1) _ _ rfl rfl (load40 HBP.out)) ?_)
   | (go_at_call 23; (refine HC.out.mono ?_); rintro e w2 ⟨A,c,F,rfl,h2⟩
      have H2 := Lib.hid h2
      obtain ⟨-,x1,x2⟩ := HBX.out _ h2.below
      have HX1 := Lib.hid x1
      have HX2 := Lib.hid x2
      clear h2 x1 x2))
 obtain ⟨w3,hw3⟩ : ∃ w3,w3 = w2.alloc (.cells #[.int .i64 (n : Int), .slice A cl.length c] 24) := ⟨_,rfl⟩
 rw [<- hw3]
 have hb23 : Below w2.heap.size w2 w3 := by rw [hw3]; exact (Below.refl _ _).alloc (Nat.le_refl _) _
 have hr3 : w3.heap[w2.heap.size]? = some (.cells #[.int .i64 (n : Int), .slice A cl.length c] 24 (0,0)) := by rw [hw3]; exact heap_alloc_new w2 _
 have HR3 := Lib.hid hr3
 have HX3 := Lib.hid ((hb23.block _ (Array.getElem?_eq_some_iff.1 HX2.out).1).trans HX2.out)
 have HO3 : Hid (OutSt 36 F w w3 (.slice A cl.length c) cl) := Lib.hid ((OutSt.base HB0.out H2.out).below' hb23)
 have hz3 : w.heap.size + 1 < w3.heap.size := (Array.getElem?_eq_some_iff.1 HX3.out).1
 have HZ3 := Lib.hid hz3
 clear hw3 hb23 hr3 HX1 HX2 H2 HC hz3
 generalize w2.heap.size = pb at *
 go_upto_region 5 with ((with_reducible refine wpList_sel 18 ?_); refine wpList_val rfl (r_loadAt 24 (.tmp 5) _ _ rfl rfl (load40 HR3.out)) ?_; (with_reducible refine wpList_sel 19 ?_); refine wpList_val rfl (r_build65 (.tmp 18) (n : Int) A cl.length c rfl rfl) ?_)
 obtain ⟨w4,hw4⟩ : ∃ w4,w4 = w3.alloc (.cells #[.int .i64 (n : Int), .slice A cl.length c, .slice none 0 0, .slice none 0 0, .int .i64 0] 68) := ⟨_,rfl⟩
 rw [<- hw4]
 have hb34 : Below w3.heap.size w3 w4 := by rw [hw4]; exact (Below.refl _ _).alloc (Nat.le_refl _) _
 have hx4 : w4.heap[w3.heap.size]? = some (.cells #[.int .i64 (n : Int), .slice A cl.length c, .slice none 0 0, .slice none 0 0, .int .i64 0] 68 (0,0)) := by rw [hw4]; exact heap_alloc_new w3 _
 have HB34 := Lib.hid hb34
 have HX4 := Lib.hid ((hb34.block _ (Array.getElem?_eq_some_iff.1 HX3.out).1).trans HX3.out)
 have HO4 := Lib.hid (HO3.out.below' hb34)
 have HS4 : Hid (StX w.heap.size w3.heap.size ⟨n,cl, [], []⟩ 0 w4 A c none 0 none 0) := Lib.hid ⟨hx4,Nat.le_of_lt (Nat.lt_of_succ_lt HZ3.out),TabX.new2 HO4.out (fun k hk => by
   rcases hk with rfl | hk
   · refine ⟨fun h => ?_,fun h => ?_⟩
     · obtain ⟨-, -,C,hC⟩ := HO4.out.fs _ h
       exact (ne_type hC hx4 (by decide)) rfl
     · obtain ⟨-,C,hC⟩ := HO4.out.out.block _ h
       exact (ne_type hC hx4 (by decide)) rfl
   · cases hk),fun w' k => tab_nil,World.ownsRow_nil _ _ _ _⟩
 have H28 : Hid (Calls Tryz.prog 41 #[.pointer (some ⟨w3.heap.size,0,none⟩)] w4 (fun e w' => e = .returned (.bool (shortenE rels).2) /\ (∃ A' c',StX w.heap.size w3.heap.size ⟨n,(shortenE rels).1, [], []⟩ 0 w' A' c' none 0 none 0) /\ BelX (fun k => k = w3.heap.size) w4 w')) := Lib.hid ((shorten28_any w.heap.size w3.heap.size ⟨n,cl, [], []⟩ w4 A c none 0 none 0 HS4.out (by rw [<- hcl]; exact HV.out.clean) (by have := HB34.out.size; have := HZ3.out; omega)).mono fun e w' h => sh28_end hcl HS4.out h)
 have HBW4 : Hid (Below w.heap.size w w4) := HO4.out.below |> fun h => Lib.hid h
 clear hw4 hb34 hx4 HR3 HX3 HO3
 generalize w3.heap.size = xb at *
 go_upto_region 6 with
   (go_at_call 41; (refine H28.out.mono ?_); rintro e w5 ⟨rfl,⟨A5,c5,hs5⟩,hb5⟩
    have HS5 := Lib.hid hs5
    have HB5 := Lib.hid hb5
    clear hs5 hb5)
 have hbx5 := HS5.out.box
 have HR5 : Hid (w5.heap[w.heap.size + 1]? = some (.cells zero40 24 (0,0))) := Lib.hid ((HB5.out.block _ (Array.getElem?_eq_some_iff.1 HX4.out).1 (by have := HZ3.out; omega)).trans HX4.out)
 have HRL : Hid (∀ x y,(shortenE rels).1 = x -> (shortenE rels).2 = y -> shortenE rels = (x,y)) := Lib.hid fun x y hx hy => by rw [<- hx, <- hy]
 generalize hrl : (shortenE rels).1 = rl at *
 generalize hbl : (shortenE rels).2 = bl at *
 have HRE := Lib.hid (HRL.out rl bl rfl rfl)
 clear hrl hbl HRL
 have HC6 : Hid (∀ W',w5.grownBy W' (some (w.heap.size + 1)) -> W'.heap[xb]? = some (.cells #[.int .i64 (n : Int), .slice A5 rl.length c5, .slice none 0 0, .slice none 0 0, .int .i64 0] 68 (0,0))) := Lib.hid fun W' hg => (hg.block xb (Array.getElem?_eq_some_iff.1 HS5.out.box).1 (by have := HZ3.out; simp; omega)).trans HS5.out.box
 clear hbx5
 refine (wpIn_wide (n := 3)).1 ?_
 refine wpIn_region_all (by kernel_rfl) 12 rfl (fun i => if i < 9 then some (23 + i) else if i = 9 then none else some (i - 7)) (lex_of (by kernel_rfl))
   (fun ls W' => w5.grownBy W' (some (w.heap.size + 1)) /\ (if ls 9 = true then W'.heap[w.heap.size + 1]? = some (.cells #[.int .i64 (n : Int), .slice A5 rl.length c5] 24 (0,0)) else W'.heap[w.heap.size + 1]? = some (.cells zero40 24 (0,0))))
   (fun i v _ => v = [Value.pointer (some ⟨xb,0,none⟩), .pointer (some ⟨xb,0,none⟩), .pointer (some ⟨xb,0,none⟩), .agg #[.int .i64 (n : Int), .slice A5 rl.length c5], .bool bl, .pointer (some ⟨xb,0,none⟩), .pointer (some ⟨xb,0,none⟩), .pointer (some ⟨xb,4,none⟩), .int .i64 0,undef, .bool bl, .int .i64 0].getD i undef)
   (fun _ _ _ => True) (dm_inj (by kernel_rfl)) (fun _ _ _ _ _ _ _ _ _ h => h) (dm_lt (n := 32) (by kernel_rfl)) ⟨below_grown (Below.refl w5.heap.size w5).drew,HR5.out⟩ ?_ ?_
 · intro ls q o a w6 hq ho hS hls hcl hP hpre
   obtain ⟨hS1,hS2⟩ := hS
   have hbx := HC6.out _ hS1
   have hcases : q = 0 \/ q = 1 \/ q = 2 \/ q = 3 \/ q = 4 \/ q = 5 \/ q = 6 \/ q = 7 \/ q = 8 \/ q = 9 \/ q = 10 \/ q = 11 := by
     have : q < 12 := hq
     omega
   have hkp : ∀ q,q ≠ 9 -> (w5.grownBy w6 (some (w.heap.size + 1)) /\ (if (fun j => if q = j then true else ls j) 9 = true then w6.heap[w.heap.size + 1]? = some (.cells #[.int .i64 (n : Int), .slice A5 rl.length c5] 24 (0,0)) else w6.heap[w.heap.size + 1]? = some (.cells zero40 24 (0,0)))) := fun q h1 => by
     simp only [if_neg h1]
     exact ⟨hS1,hS2⟩
   rcases hcases with rfl | rfl | rfl | rfl | rfl | rfl | rfl | rfl | rfl | rfl | rfl | rfl
   · obtain rfl := Option.some.inj ho
     exact wpOpIn_of rfl rfl (wpW_val (r_move (.tmp 7) rfl (hP.out 7 (dm_out (by kernel_rfl)))) ⟨_,rfl,hkp 0 (by decide),trivial,(fun h => by simp at h),rfl⟩)
   · obtain rfl := Option.some.inj ho
     exact wpOpIn_of rfl rfl (wpW_val (r_nil (.tmp 23) _ rfl (hpre ⟨0, .data⟩ (by simp) rfl).2) ⟨_,rfl,hkp 1 (by decide),trivial,(fun h => by simp at h),rfl⟩)
   · obtain rfl := Option.some.inj ho
     exact wpOpIn_of rfl rfl (wpW_val (r_fld (.tmp 24) _ rfl (hpre ⟨1, .data⟩ (by simp) rfl).2 (fld65_0 xb _)) ⟨_,rfl,hkp 2 (by decide),trivial,(fun h => by simp at h),rfl⟩)
   · obtain rfl := Option.some.inj ho
     exact wpOpIn_of rfl rfl (wpW_val (r_loadAt 24 (.tmp 25) _ _ rfl (hpre ⟨2, .data⟩ (by simp) rfl).2 (load27m hbx)) ⟨_,rfl,hkp 3 (by decide),trivial,(fun h => by simp at h),rfl⟩)
   · obtain rfl := Option.some.inj ho
     exact wpOpIn_of rfl rfl (wpW_val (r_move (.tmp 8) rfl (hP.out 8 (dm_out (by kernel_rfl)))) ⟨_,rfl,hkp 4 (by decide),trivial,(fun h => by simp at h),rfl⟩)
   · obtain rfl := Option.some.inj ho
     exact wpOpIn_of rfl rfl (wpW_val (r_move (.tmp 7) rfl (hP.out 7 (dm_out (by kernel_rfl)))) ⟨_,rfl,hkp 5 (by decide),trivial,(fun h => by simp at h),rfl⟩)
   · obtain rfl := Option.some.inj ho
     exact wpOpIn_of rfl rfl (wpW_val (r_nil (.tmp 28) _ rfl (hpre ⟨5, .data⟩ (by simp) rfl).2) ⟨_,rfl,hkp 6 (by decide),trivial,(fun h => by simp at h),rfl⟩)
   · obtain rfl := Option.some.inj ho
     exact wpOpIn_of rfl rfl (wpW_val (r_fld (.tmp 29) _ rfl (hpre ⟨6, .data⟩ (by simp) rfl).2 (fld65_3 xb _)) ⟨_,rfl,hkp 7 (by decide),trivial,(fun h => by simp at h),rfl⟩)
   · obtain rfl := Option.some.inj ho
     exact wpOpIn_of rfl rfl (wpW_val (r_load1 27 agg28w (.tmp 30) ⟨xb,4,none⟩ rfl (hpre ⟨7, .data⟩ (by simp) rfl).2 (cells5 hbx).2.2.2.2) ⟨_,rfl,hkp 8 (by decide),trivial,(fun h => by simp at h),rfl⟩)
   · obtain rfl := Option.some.inj ho
     rw [if_neg (by rw [hls]; simp)] at hS2
     have hg6 : w6.grownBy (w6.setRow (w.heap.size + 1) #[.int .i64 (n : Int), .slice A5 rl.length c5]) (some (w.heap.size + 1)) := ⟨rfl,rfl,rfl,by rw [World.setRow]; simp,fun k _ hne => setRow_other _ _ k _ (fun e => hne (by rw [e]))⟩
     exact wpOpIn_of rfl rfl (wpW_skip (r_store40 (.tmp 2) (.tmp 26) rfl (w.heap.size + 1) zero40 #[.int .i64 (n : Int), .slice A5 rl.length c5] (hP.out 2 (dm_out (by kernel_rfl))) (hpre ⟨3, .data⟩ (by simp) rfl).2 hS2 rfl rfl (one40 A5 rl.length c5 (n : Int))) ⟨undef,rfl,⟨grown_trans hS1 hg6,by
       rw [if_pos (by simp)]
       exact setRow_heap _ _ _ _ _ _ hS2⟩,trivial,(fun _ => rfl),rfl⟩)
   · obtain rfl := Option.some.inj ho
     exact wpOpIn_of rfl rfl (wpW_val (r_assign (.tmp 27) rfl rfl) ⟨_,rfl,hkp 10 (by decide),trivial,(fun h => by simp at h),(hpre ⟨4, .data⟩ (by simp) rfl).2⟩)
   · obtain rfl := Option.some.inj ho
     exact wpOpIn_of rfl rfl (wpW_val (r_assign (.tmp 31) rfl rfl) ⟨_,rfl,hkp 11 (by decide),trivial,(fun h => by simp at h),(hpre ⟨8, .data⟩ (by simp) rfl).2⟩)
 · intro ls a W6 hall hS hP hsl
   obtain ⟨hS1,hS2⟩ := hS
   rw [if_pos (hall 9 (by decide))] at hS2
   have e5 := hsl 10 (by decide)
   have e6 := hsl 11 (by decide)
   obtain ⟨vs,hvs,hfr⟩ := hP.frame 32 rfl
   have f5 : vs 3 = .bool bl := (hvs 3).trans e5
   have f6 : vs 4 = .int .i64 0 := (hvs 4).trans e6
   have H1 := Lib.hid hS1
   have H2 := Lib.hid hS2
   clear hsl hP hall hvs hS1 hS2 e5 e6
   subst hfr
   simp only [List.range,List.range.loop,List.map_cons,List.map_nil,List.any_cons,List.any_nil,Nat.reduceAdd,Nat.reduceBEq,Nat.reduceLT,Option.some_beq_some,Bool.or_false,if_true,if_false,List.getD_cons_zero,List.getD_cons_succ,Bool.false_or,Bool.or_true,Bool.true_or,Nat.reduceEqDiff]
   rw [f5,f6]
   clear f5 f6
   go_wp2_with fail
   try simp only [Exit.inBlock,Exit.then]
   rw [HRE.out]
   refine bodyPost_ret (results_27_3 (p := 2) (q := 3) (r := 4) rfl _ _ (w.heap.size + 1) #[.int .i64 (n : Int), .slice A5 rl.length c5] (.bool bl) (.int .i64 0) rfl rfl rfl H2.out rfl) rfl ⟨⟨A5,c5,rfl,(HS5.out.rels.keep (AgX.other H1.out HR5.out (by decide) (by decide))).tab⟩, ?_⟩
   exact (HBW4.out.trans (HB5.out.below HBW4.out.size fun k hk => by have := HZ3.out; omega)).trans ⟨H1.out.os,H1.out.tape,H1.out.output,H1.out.size,fun k hk => H1.out.block k (Nat.lt_of_lt_of_le hk (Nat.le_trans HBW4.out.size HB5.out.size)) (by simp; omega)⟩
def ShortenErr (x : Int) (w : World) (e : Ending) (w' : World) : Prop := e = .returned (.tuple #[.agg #[.int .i64 0, .slice none 0 0], .bool false, .int .i64 x]) /\ Below w.heap.size w w'
set_option maxRecDepth 100000 in
set_option maxHeartbeats 4000000 in
theorem shorten9_bad (w : World) (vr : Value) (n : Int) (rels : List (List Int)) (hR : Tab w vr rels) (he : presE n rels ≠ 0) : Calls Tryz.prog 16 #[.agg #[.int .i64 n,vr]] w (ShortenErr (presE n rels) w) := by
 obtain ⟨Ar,cr,rfl⟩ := Tab.form hR
 have H26 : Hid (∀ W,Tab W (.slice Ar rels.length cr) rels -> Calls Tryz.prog 23 #[.agg #[.int .i64 n, .slice Ar rels.length cr]] W fun e w' => e = .returned (.tuple #[.agg #[.int .i64 0, .slice none 0 0], .int .i64 (presE n rels)]) /\ Below W.heap.size W w') := Lib.hid fun W h => clean26_bad W _ n rels h he
 have d1 : (presE n rels != 0) = true := by simpa using he
 generalize presE n rels = x at *
 have HPB : Hid (∀ w0 : World,w0 = (w.alloc (.cells #[.int .i64 n, .slice Ar rels.length cr] 24)).alloc (.cells zero40 24) -> Below w.heap.size w w0 /\ w0.heap[w.heap.size]? = some (.cells #[.int .i64 n, .slice Ar rels.length cr] 24 (0,0)) /\ w0.heap[w.heap.size + 1]? = some (.cells zero40 24 (0,0))) := Lib.hid fun w0 h => by
   subst h
   refine ⟨((Below.refl _ _).alloc (Nat.le_refl _) _).alloc (by simp) _, ?_, ?_⟩
   · exact (Below.heap_alloc (w.alloc _) _ w.heap.size (by simp)).trans (heap_alloc_new w _)
   · have := heap_alloc_new (w.alloc (.cells #[.int .i64 n, .slice Ar rels.length cr] 24)) (.cells zero40 24); rwa [World.size_alloc] at this
 have HRR := Lib.hid hR
 clear hR he
 go_enter Tryz.func16,Tryz.ntmps16
 go_wp2_with ((with_reducible refine wpList_sel 2 ?_); refine wpList_val rfl (r_alloc40 rfl) ?_)
 generalize hw0 : (w.alloc (.cells #[.int .i64 n, .slice Ar rels.length cr] 24)).alloc (.cells zero40 24) = w0 at *
 obtain ⟨hb0,hbp,hbr⟩ := HPB.out w0 rfl
 have HB0 := Lib.hid hb0
 have HBP := Lib.hid hbp
 have HBR := Lib.hid hbr
 have HC := Lib.hid (H26.out w0 (kept_tab.below HRR.out hb0))
 clear hw0 hb0 hbp hbr HPB HRR H26
 go_upto_region 2 with (first
   | ((with_reducible refine wpList_sel 10 ?_); refine wpList_val rfl (r_loadAt 24 (.tmp 1) _ _ rfl rfl (load40 HBP.out)) ?_)
   | (go_at_call 23; (refine HC.out.mono ?_); rintro e w2 ⟨rfl,hb⟩
      have HX2 := Lib.hid ((hb.block _ (Array.getElem?_eq_some_iff.1 HBR.out).1).trans HBR.out)
      have HB2 := Lib.hid (HB0.out.trans (hb.mono HB0.out.size))
      clear hb))
 obtain ⟨w3,hw3⟩ : ∃ w3,w3 = w2.alloc (.cells #[.int .i64 0, .slice none 0 0] 24) := ⟨_,rfl⟩
 rw [<- hw3]
 have hb23 : Below w2.heap.size w2 w3 := by rw [hw3]; exact (Below.refl _ _).alloc (Nat.le_refl _) _
 have HX3 : Hid (w3.heap[w.heap.size + 1]? = some (.cells zero40 24 (0,0))) := Lib.hid ((hb23.block _ (Array.getElem?_eq_some_iff.1 HX2.out).1).trans HX2.out)
 have HB3 := Lib.hid (HB2.out.trans (hb23.mono HB2.out.size))
 clear hw3 hb23 HX2 HB2 HC
 go_wp2_with ((with_reducible refine wpList_sel 16 ?_); refine wpList_val rfl (r_build40 rfl) ?_; refine wpList_val rfl (r_move (v := .int .i64 x) (.tmp 6) rfl rfl) ?_; refine wpList_skip rfl (r_store40 (.tmp 2) (.tmp 16) rfl (w.heap.size + 1) zero40 zero40 rfl rfl HX3.out rfl rfl zero40_one) ?_)
 try simp only [Exit.inBlock,Exit.then]
 exact bodyPost_ret (results_27_3 (p := 2) (q := 3) (r := 4) rfl _ _ (w.heap.size + 1) zero40 (.bool false) (.int .i64 x) rfl rfl rfl (setRow_heap _ _ _ _ _ _ HX3.out) rfl) rfl ⟨rfl,below_setRow HB3.out (Nat.le_succ _) _⟩
end Go.Proofs
namespace Go.Proofs
open Go.RowKit Go.Shelf Go.Lib Go.Sort Go.Proofs.Ct Go.Proofs.Tz Go.Maps
structure PS (B pb : Nat) (X F : Nat -> Prop) (wa : World) (nb : Int) (vb v : Value) (R : List (List Int)) (W : World) : Prop where
 box : W.heap[pb]? = some (.cells #[.int .i64 nb,vb] 24 (0,0))
 lo : B <= pb
 lt : pb < wa.heap.size
 below : Below B wa W
 ag : AgX X wa W
 out : OwnT 36 B F W v R
 fs : ∀ k,F k -> B <= k /\ k < W.heap.size /\ ∃ C,W.heap[k]? = some (.cells C 3 (0,0))
 ob : ∀ r,v.ownBlock = some r -> X r \/ wa.heap.size <= r
structure PSw (F : Nat -> Prop) (wa : World) (u : Value) (x : List Int) (W : World) : Prop where
 row : OwnI wa.heap.size W u x
 ap : ∀ r,u.ownBlock = some r -> ¬ F r
section
variable {B pb : Nat} {X F : Nat -> Prop} {wa W W' : World} {nb : Int} {vb v u : Value} {R : List (List Int)} {x : List Int}
theorem PS.bnd (h : PS B pb X F wa nb vb v R W) : B <= W.heap.size := by have := h.lo; have := h.lt; have := h.below.size; omega
theorem PS.grown {row : Option Nat} (h : PS B pb X F wa nb vb v R W) (hg : W.grownBy W' row) (h0 : ∀ r,row = some r -> r ≠ pb /\ ¬ F r /\ v.ownBlock ≠ some r /\ wa.heap.size <= r) : PS B pb X F wa nb vb v R W' := by
 have hub := h.out.block
 refine ⟨(hg.block pb (Array.getElem?_eq_some_iff.1 h.box).1 fun e => (h0 pb e.symm).1 rfl).trans h.box,h.lo,h.lt,h.below.grown hg h.bnd (fun r hr => by have := (h0 r hr).2.2.2; have := h.lo; have := h.lt; omega),⟨Nat.le_trans h.ag.size hg.size,fun k o ho hw hx => ?_⟩,h.out.keep (fun r hr => ?_) (Ag.grown hg fun k hk => ⟨(h.fs k hk).2.1,fun e => (h0 _ e).2.1 hk⟩) (fun _ h => h),fun k hk => ?_,h.ob⟩
 · have hlt := (Array.getElem?_eq_some_iff.1 ho).1
   have h1 := h.ag.same k o ho hw hx
   exact (hg.block k (Array.getElem?_eq_some_iff.1 h1).1 fun e => by have := (h0 k e.symm).2.2.2; omega).trans h1
 · obtain ⟨-,C,hC⟩ := hub r hr
   exact hg.block r (Array.getElem?_eq_some_iff.1 hC).1 fun e => (h0 r e.symm).2.2.1 hr
 · obtain ⟨h1,h2,C,hC⟩ := h.fs k hk
   exact ⟨h1,Nat.lt_of_lt_of_le h2 hg.size,C,grown_cells hg hC fun e => (h0 _ e).2.1 hk⟩
theorem PS.below' (h : PS B pb X F wa nb vb v R W) (hb : Below W.heap.size W W') : PS B pb X F wa nb vb v R W' :=
 h.grown (row := none) ⟨hb.os,hb.tape,hb.output,hb.size,fun k hk _ => hb.block k hk⟩ fun r hr => by cases hr
theorem PSw.below' (h : PSw F wa u x W) (hb : Below W.heap.size W W') : PSw F wa u x W' := ⟨owns_below h.row hb,h.ap⟩
theorem PSw.nil (F : Nat -> Prop) (wa W : World) : PSw F wa (.slice none 0 0) [] W := ⟨World.ownsRow_nil _ _ _ _,fun r hr => by cases hr⟩
theorem PS.push {A : Option Addr} {n c : Nat} (h : PS B pb X F wa nb vb v R W) (k : PSw F wa (.slice A n c) x W) (hf : Fits x) (hl : R.length <= 9000000) :
   ∃ A' c' W',(Builtin.append_ #[22,22] 22 #[v, .slice (some ⟨W.heap.size,0,none⟩) 1 1]).run Tryz.prog (W.alloc (.cells #[.slice A n c] 36)) = .ok (.slice A' (R.length + 1) c') W' /\ PS B pb X (fun r => F r \/ (Value.slice A n c).ownBlock = some r) wa nb vb (.slice A' (R.length + 1) c') (R ++ [x]) W' /\ W.grownBy W' v.ownBlock := by
 have hs : wa.heap.size <= W.heap.size := h.below.size
 have hBs : B <= wa.heap.size := by have := h.lo; have := h.lt; omega
 have hub := h.out.block
 have hrb := owns_block k.row
 have hF2 : ∀ r,(F r \/ (Value.slice A n c).ownBlock = some r) -> r < W.heap.size /\ v.ownBlock ≠ some r := fun r hr => by
   rcases hr with hr | hr
   · obtain ⟨h1,h2,C,hC⟩ := h.fs r hr
     refine ⟨h2,fun e => ?_⟩
     obtain ⟨-,D,hD⟩ := hub r e
     exact (ne_type hC hD (by decide)) rfl
   · obtain ⟨h1,C,hC⟩ := hrb r hr
     refine ⟨(Array.getElem?_eq_some_iff.1 hC).1,fun e => ?_⟩
     obtain ⟨-,D,hD⟩ := hub r e
     exact (ne_type hC hD (by decide)) rfl
 obtain ⟨A',c',W',hr,ho',hg,hw⟩ := push_row (t := 22) (ty := 22) Tryz.underlying22 info25p W B (fun r => F r \/ (Value.slice A n c).ownBlock = some r) v R (h.out.keep (fun _ _ => rfl) (Ag.refl _ _) (fun r hr => .inl hr)) A n c x ((IntsF.of_own k.row hf).mono fun r hr => .inr hr) hF2 (by omega) h.bnd
 have hne : ∀ r,v.ownBlock = some r -> r ≠ pb := fun r hr e => by
   obtain ⟨-,C,hC⟩ := hub r hr
   exact (ne_type hC h.box (by decide)) e
 refine ⟨A',c',W',hr,⟨(hg.block pb (Array.getElem?_eq_some_iff.1 h.box).1 fun e => hne pb e.symm rfl).trans h.box,h.lo,h.lt,h.below.grown hg h.bnd (fun r hr => (hub r hr).1),⟨Nat.le_trans h.ag.size hg.size,fun q o ho hw' hx => ?_⟩,ho',fun r hr => ?_,fun r hr' => ?_⟩,hg⟩
 · have hlt := (Array.getElem?_eq_some_iff.1 ho).1
   have h1 := h.ag.same q o ho hw' hx
   refine (hg.block q (Array.getElem?_eq_some_iff.1 h1).1 fun e => ?_).trans h1
   rcases h.ob q e.symm with h2 | h2
   · exact hx h2
   · omega
 · have h2 := hF2 r hr
   rcases hr with hr | hr
   · obtain ⟨h1, -,C,hC⟩ := h.fs r hr
     exact ⟨h1,Nat.lt_of_lt_of_le h2.1 hg.size,C,grown_cells hg hC h2.2⟩
   · obtain ⟨h1,C,hC⟩ := hrb r hr
     exact ⟨by omega,Nat.lt_of_lt_of_le h2.1 hg.size,C,grown_cells hg hC h2.2⟩
 · rcases hw with e | ⟨r',e,h2⟩
   · exact h.ob r (e ▸ hr')
   · rw [e] at hr'
     cases hr'
     exact .inr (by omega)
theorem PS.put {k : Nat} {z : Value} (h : PS B pb X F wa nb vb v R W) {nb' : Int} {vb' : Value} (e : (#[.int .i64 nb,vb] : Array Value).setIfInBounds k z = #[.int .i64 nb',vb']) : PS B pb X F wa nb' vb' v R (W.setCell ⟨pb,k,none⟩ z) := by
 have hg : W.grownBy (W.setCell ⟨pb,k,none⟩ z) (some pb) := grown_setCell W pb k z
 have hub := h.out.block
 refine ⟨by rw [<- e]; exact heap_set5 h.box,h.lo,h.lt,h.below.grown hg h.bnd (fun r hr => by cases hr; exact h.lo),⟨Nat.le_trans h.ag.size hg.size,fun q o ho hw hx => ?_⟩,h.out.keep (fun r hr => ?_) (Ag.grown hg fun k hk => ⟨(h.fs k hk).2.1,fun e => ?_⟩) (fun _ h => h),fun k hk => ?_,h.ob⟩
 · have h1 := h.ag.same q o ho hw hx
   refine (hg.block q (Array.getElem?_eq_some_iff.1 h1).1 fun e => ?_).trans h1
   obtain rfl := Option.some.inj e
   rw [h.box] at h1
   obtain ⟨C,t,fr,rfl,ht⟩ := hw
   injection h1 with h1
   injection h1 with _ h2 _
   subst h2
   revert ht
   decide
 · obtain ⟨-,C,hC⟩ := hub r hr
   exact hg.block r (Array.getElem?_eq_some_iff.1 hC).1 fun e => (ne_type hC h.box (by decide)) (Option.some.inj e)
 · obtain ⟨-, -,C,hC⟩ := h.fs _ hk
   exact (ne_type hC h.box (by decide)) (Option.some.inj e).symm
 · obtain ⟨h1,h2,C,hC⟩ := h.fs k hk
   exact ⟨h1,Nat.lt_of_lt_of_le h2 hg.size,C,grown_cells hg hC fun e => (ne_type hC h.box (by decide)) (Option.some.inj e).symm⟩
theorem PS.tab (h : PS B pb X F wa nb vb v R W) : Tab W v R := OwnT.tab h.out
end
end Go.Proofs
