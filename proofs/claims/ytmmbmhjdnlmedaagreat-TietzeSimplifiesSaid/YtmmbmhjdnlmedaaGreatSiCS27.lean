/- The reference's Simplify; Word lists as they are laid by literals; tietze's functions at given arguments; The walk of the law's awake; The law that Eliminate answers as the reference does; The law that Shorten and Simplify answer as the reference does. -/
import Derived.Test.YtmmbmhjdnlmedaaGreatSiCS26
import Derived.Test.YtmmbmhjdnlmedaaGreatSiCS22
import Derived.Test.YtmmbmhjdnlmedaaGreatSiCS23
import Derived.Test.YtmmbmhjdnlmedaaGreatSiCS10
namespace Go.Proofs
open Go.RowKit Go.Shelf Go.Lib Go.Sort Go.Proofs.Ct Go.Proofs.Tz Go.Maps
set_option maxRecDepth 100000 in
set_option maxHeartbeats 4000000 in
theorem simplify19_bad (w : World) (vr : Value) (n : Int) (rels : List (List Int)) (steps : Int) (hR : Tab w vr rels) (hsm : ∀ j,(rels.getD j []).length <= 8000000) (he : presE n rels ≠ 0) : Calls Tryz.prog 19 #[.agg #[.int .i64 n,vr], .int .i64 steps] w (SimpErr (presE n rels) w) := by
 obtain ⟨Ar,cr,rfl⟩ := Tab.form hR
 have d1 : (presE n rels != 0) = true := by simpa using he
 have HPB : Hid (∀ w0 : World,w0 = (w.alloc (.cells #[.int .i64 n, .slice Ar rels.length cr] 24)).alloc (.cells zero40 24) -> Below w.heap.size w w0 /\ w0.heap[w.heap.size]? = some (.cells #[.int .i64 n, .slice Ar rels.length cr] 24 (0,0)) /\ w0.heap[w.heap.size + 1]? = some (.cells zero40 24 (0,0))) := Lib.hid fun w0 h => by
   subst h
   refine ⟨((Below.refl _ _).alloc (Nat.le_refl _) _).alloc (by simp) _, ?_, ?_⟩
   · exact (Below.heap_alloc (w.alloc _) _ w.heap.size (by simp)).trans (heap_alloc_new w _)
   · have := heap_alloc_new (w.alloc (.cells #[.int .i64 n, .slice Ar rels.length cr] 24)) (.cells zero40 24); rwa [World.size_alloc] at this
 have H39 : Hid (∀ w0,Below w.heap.size w w0 -> Calls Tryz.prog 39 #[.agg #[.int .i64 n, .slice Ar rels.length cr]] w0 fun e w' => e = .returned (.tuple #[.agg #[.int .i64 0, .slice none 0 0], .int .i64 (presE n rels)]) /\ Below w0.heap.size w0 w') := Lib.hid fun w0 h => clean39_bad w0 _ n rels (kept_tab.below hR h) hsm he
 generalize presE n rels = x at *
 clear hR he hsm
 go_enter Tryz.func19,Tryz.ntmps19
 go_wp2_with ((with_reducible refine wpList_sel 4 ?_); refine wpList_val rfl (r_alloc40 rfl) ?_)
 generalize hw0 : (w.alloc (.cells #[.int .i64 n, .slice Ar rels.length cr] 24)).alloc (.cells zero40 24) = w0 at *
 obtain ⟨hb0,hbp,hbr⟩ := HPB.out w0 rfl
 have HB0 := Lib.hid hb0
 have HBP := Lib.hid hbp
 have HBR := Lib.hid hbr
 clear hw0 hb0 hbp hbr HPB
 go_wp2_with ((with_reducible refine wpList_sel 15 ?_); refine wpList_val rfl (r_loadAt 24 (.tmp 2) _ _ rfl rfl (load40 HBP.out)) ?_)
 refine (H39.out w0 HB0.out).mono ?_
 rintro e w1 ⟨rfl,hb⟩
 have HP1 := Lib.hid ((hb.block _ (Array.getElem?_eq_some_iff.1 HBP.out).1).trans HBP.out)
 have HR1 := Lib.hid ((hb.block _ (Array.getElem?_eq_some_iff.1 HBR.out).1).trans HBR.out)
 have HB1 : Hid (Below w.heap.size w w1) := Lib.hid (HB0.out.trans (hb.mono HB0.out.size))
 have HR2 : Hid ((w1.setRow w.heap.size zero40).heap[w.heap.size + 1]? = some (.cells zero40 24 (0,0))) := Lib.hid ((setRow_ne (by omega)).trans HR1.out)
 clear hb H39
 go_wp2_with (first
   | ((with_reducible refine wpList_selStore 24 2 17 ?_); refine wpList_skip rfl (r_store40 (.tmp 2) (.tmp 17) rfl w.heap.size _ zero40 rfl rfl HP1.out rfl rfl zero40_one) ?_)
   | ((with_reducible refine wpList_sel 21 ?_); refine wpList_val rfl (r_build40 rfl) ?_; refine wpList_val rfl (r_move (v := .int .i64 x) (.tmp 8) rfl rfl) ?_; refine wpList_skip rfl (r_store40 (.tmp 4) (.tmp 21) rfl (w.heap.size + 1) zero40 zero40 rfl rfl HR2.out rfl rfl zero40_one) ?_))
 try simp only [Exit.inBlock,Exit.then]
 exact bodyPost_ret (results_27_4 (p := 4) (q := 5) (r := 6) (t := 7) rfl _ _ (w.heap.size + 1) zero40 (.slice none 0 0) (.slice none 0 0) (.int .i64 x) rfl rfl rfl rfl (setRow_heap _ _ _ _ _ _ HR2.out) rfl) rfl ⟨rfl,below_setRow (below_setRow HB1.out (Nat.le_refl _) _) (Nat.le_succ _) _⟩
set_option maxRecDepth 100000 in
set_option maxHeartbeats 4000000 in
theorem simplify19_range (w : World) (vr : Value) (n : Nat) (rels : List (List Int)) (steps : Int) (hR : Tab w vr rels) (he : presE n rels = 0) (hb : steps < 0 \/ 1000 < steps) : Calls Tryz.prog 19 #[.agg #[.int .i64 (n : Int),vr], .int .i64 steps] w (SimpErr 2 w) := by
 obtain ⟨Ar,cr,rfl⟩ := Tab.form hR
 have HBN := Lib.hid (ElBox.new w n Ar cr rels.length)
 have HRR := Lib.hid hR
 have HPE := Lib.hid he
 clear hR he
 have h4 : (steps < 0) \/ (0 <= steps /\ 1000 < steps) := by omega
 clear hb
 have hd : (decide (steps < 0) = true) \/ (decide (steps < 0) = false /\ decide (1000 < steps) = true) := by
   rcases h4 with h | ⟨h1,h2⟩
   · exact .inl (decide_eq_true h)
   · exact .inr ⟨decide_eq_false (by omega),decide_eq_true h2⟩
 clear h4
 rcases hd with d1 | ⟨d1,d2⟩
 all_goals
   go_enter Tryz.func19,Tryz.ntmps19
   go_wp2_with ((with_reducible refine wpList_sel 4 ?_); refine wpList_val rfl (r_alloc40 rfl) ?_)
   generalize hw0 : (w.alloc (.cells #[.int .i64 (n : Int), .slice Ar rels.length cr] 24)).alloc (.cells zero40 24) = w0 at *
   have HB0 := Lib.hid HBN.out.below
   have HBP := Lib.hid HBN.out.arg
   have HBR := Lib.hid HBN.out.res
   have H39 := Lib.hid (clean39_ok w0 _ (n : Int) rels (kept_tab.below HRR.out HB0.out) HPE.out)
   clear hw0 HRR HBN
   generalize cleanL rels = L at *
   go_wp2_with ((with_reducible refine wpList_sel 15 ?_); refine wpList_val rfl (r_loadAt 24 (.tmp 2) _ _ rfl rfl (load40 HBP.out)) ?_)
   refine H39.out.mono ?_
   rintro e w1 ⟨⟨A,c,rfl, -⟩,hb⟩
   have HP1 := Lib.hid ((hb.block _ (Array.getElem?_eq_some_iff.1 HBP.out).1).trans HBP.out)
   have HR1 := Lib.hid ((hb.block _ (Array.getElem?_eq_some_iff.1 HBR.out).1).trans HBR.out)
   have HB1 : Hid (Below w.heap.size w w1) := Lib.hid (HB0.out.trans (hb.mono HB0.out.size))
   have HR2 : Hid ((w1.setRow w.heap.size #[.int .i64 (n : Int), .slice A L.length c]).heap[w.heap.size + 1]? = some (.cells zero40 24 (0,0))) := Lib.hid ((setRow_ne (by omega)).trans HR1.out)
   clear hb H39
   go_wp2_with (first
     | ((with_reducible refine wpList_selStore 24 2 17 ?_); refine wpList_skip rfl (r_store40 (.tmp 2) (.tmp 17) rfl w.heap.size _ #[.int .i64 (n : Int), .slice A L.length c] rfl rfl HP1.out rfl rfl (by kernel_rfl)) ?_)
     | ((with_reducible refine wpList_sel 29 ?_); refine wpList_val rfl (r_build40 rfl) ?_; refine wpList_skip rfl (r_store40 (.tmp 4) (.tmp 29) rfl (w.heap.size + 1) zero40 zero40 rfl rfl HR2.out rfl rfl zero40_one) ?_))
   try simp only [Exit.inBlock,Exit.then]
   exact bodyPost_ret (results_27_4 (p := 4) (q := 5) (r := 6) (t := 7) rfl _ _ (w.heap.size + 1) zero40 (.slice none 0 0) (.slice none 0 0) (.int .i64 2) rfl rfl rfl rfl (setRow_heap _ _ _ _ _ _ HR2.out) rfl) rfl ⟨rfl,below_setRow (below_setRow HB1.out (Nat.le_refl _) _) (Nat.le_succ _) _⟩
structure SimR (w : World) (n : Nat) (rels : List (List Int)) (steps m : Nat) (s : Sp) (W : World) (A : Option Addr) (a : Nat) (B : Option Addr) (b : Nat) (C : Option Addr) (c : Nat) : Prop where
 box : W.heap[w.heap.size]? = some (.cells #[.int .i64 (s.n : Int), .slice A s.rels.length a] 24 (0,0))
 res : W.heap[w.heap.size + 1]? = some (.cells zero40 24 (0,0))
 rl : TabI (w.heap.size + 2) W.heap.size W (.slice A s.rels.length a) s.rels
 into : TabI (w.heap.size + 2) W.heap.size W (.slice B s.into.length b) s.into
 back : OwnI (w.heap.size + 2) W (.slice C s.back.length c) s.back
 ok : Okay n s
 il : ∀ z ∈ s.into,z.length <= 4000
 eq : simpTo m s = simpE n rels steps
 below : Below w.heap.size w W
 size : w.heap.size + 2 <= W.heap.size
theorem SimR.set {w : World} {n : Nat} {rels : List (List Int)} {steps m m' : Nat} {s s' : Sp} {W W1 : World} {A A' B B' C C' : Option Addr} {a a' b b' c c' : Nat} (h : SimR w n rels steps m s W A a B b C c) (hb : Below W.heap.size W W1)
   (hr : TabI (w.heap.size + 2) W1.heap.size W1 (.slice A' s'.rels.length a') s'.rels) (hi : TabI (w.heap.size + 2) W1.heap.size W1 (.slice B' s'.into.length b') s'.into) (hk : OwnI (w.heap.size + 2) W1 (.slice C' s'.back.length c') s'.back)
   (ho : Okay n s') (hl : ∀ z ∈ s'.into,z.length <= 4000) (he : simpTo m' s' = simpE n rels steps) : SimR w n rels steps m' s' (W1.setRow w.heap.size #[.int .i64 (s'.n : Int), .slice A' s'.rels.length a']) A' a' B' b' C' c' := by
 have h1 := (hb.block _ (Array.getElem?_eq_some_iff.1 h.box).1).trans h.box
 have hs : (W1.setRow w.heap.size #[.int .i64 (s'.n : Int), .slice A' s'.rels.length a']).heap.size = W1.heap.size := setRow_size _ _ _
 refine ⟨setRow_heap _ _ _ _ _ _ h1,(setRow_ne (by omega)).trans ((hb.block _ (Array.getElem?_eq_some_iff.1 h.res).1).trans h.res), ?_, ?_,owns_keep hk fun r hr' => setRow_ne fun e => by have := (owns_block hk r hr').1; omega,ho,hl,he,below_setRow (h.below.trans (hb.mono h.below.size)) (Nat.le_refl _) _,by rw [hs]; exact Nat.le_trans h.size hb.size⟩
 · rw [hs]; exact hr.keep fun q hq _ => setRow_ne (by omega)
 · rw [hs]; exact hi.keep fun q hq _ => setRow_ne (by omega)
theorem SimR.box' {w : World} {n : Nat} {rels : List (List Int)} {steps m : Nat} {s : Sp} {W W1 : World} {A B C : Option Addr} {a b c : Nat} (h : SimR w n rels steps m s W A a B b C c) (hb : Below W.heap.size W W1) : W1.heap[w.heap.size]? = some (.cells #[.int .i64 (s.n : Int), .slice A s.rels.length a] 24 (0,0)) :=
 (hb.block _ (Array.getElem?_eq_some_iff.1 h.box).1).trans h.box
theorem SimR.rels' {w : World} {n : Nat} {rels : List (List Int)} {steps m : Nat} {s : Sp} {W W1 : World} {A B C : Option Addr} {a b c : Nat} (h : SimR w n rels steps m s W A a B b C c) (hb : Below W.heap.size W W1) : TabI (w.heap.size + 2) W1.heap.size W1 (.slice A s.rels.length a) s.rels := (h.rl.below hb (Nat.le_refl _)).mono (Nat.le_refl _) hb.size
theorem SimR.into' {w : World} {n : Nat} {rels : List (List Int)} {steps m : Nat} {s : Sp} {W W1 : World} {A B C : Option Addr} {a b c : Nat} (h : SimR w n rels steps m s W A a B b C c) (hb : Below W.heap.size W W1) : TabI (w.heap.size + 2) W1.heap.size W1 (.slice B s.into.length b) s.into := (h.into.below hb (Nat.le_refl _)).mono (Nat.le_refl _) hb.size
theorem SimR.same {w : World} {n : Nat} {rels : List (List Int)} {steps m : Nat} {s : Sp} {W W1 : World} {A B C : Option Addr} {a b c : Nat} (h : SimR w n rels steps m s W A a B b C c) (hb : Below W.heap.size W W1) : SimR w n rels steps m s (W1.setRow w.heap.size #[.int .i64 (s.n : Int), .slice A s.rels.length a]) A a B b C c :=
 h.set hb (h.rels' hb) (h.into' hb) (owns_below h.back hb) h.ok h.il h.eq
set_option maxRecDepth 100000 in
set_option maxHeartbeats 4000000 in
theorem simplify19_ok (w : World) (vr : Value) (n : Nat) (rels : List (List Int)) (steps : Nat) (hR : Tab w vr rels) (he : presE n rels = 0) (hst : steps <= 1000) : Calls Tryz.prog 19 #[.agg #[.int .i64 (n : Int),vr], .int .i64 (steps : Int)] w (SimpPost n rels steps w) := by
 obtain ⟨Ar,cr,rfl⟩ := Tab.form hR
 obtain ⟨gn,hgn,hg1,hg2,hln,hall⟩ := presE_good he
 obtain rfl : n = gn := by omega
 clear hgn
 have HCL : Hid (Cln n (cleanL rels)) := Lib.hid (vld_of he).clean
 have HPE := Lib.hid he
 have HBN := Lib.hid (ElBox.new w n Ar cr rels.length)
 have HRR := Lib.hid hR
 have hs0 : (0 : Int) <= (steps : Int) := Int.natCast_nonneg _
 have hs1 : (steps : Int) <= 1000 := by omega
 have hd1 : decide ((steps : Int) < 0) = false := decide_eq_false (by omega)
 have hd2 : decide ((1000 : Int) < (steps : Int)) = false := decide_eq_false (by omega)
 have hn0 : (0 : Int) <= (n : Int) := Int.natCast_nonneg _
 have hn1 : (n : Int) <= 16 := by omega
 clear hR he hall hln
 go_enter Tryz.func19,Tryz.ntmps19
 go_wp2_with ((with_reducible refine wpList_sel 4 ?_); refine wpList_val rfl (r_alloc40 rfl) ?_)
 generalize hw0 : (w.alloc (.cells #[.int .i64 (n : Int), .slice Ar rels.length cr] 24)).alloc (.cells zero40 24) = w0 at *
 have HB0 := Lib.hid HBN.out.below
 have HBP := Lib.hid HBN.out.arg
 have HBR := Lib.hid HBN.out.res
 have HWS := Lib.hid HBN.out.size
 have H39 := Lib.hid (clean39_ok w0 _ (n : Int) rels (kept_tab.below HRR.out HB0.out) HPE.out)
 have HSE : Hid (simpE n rels steps = simpTo steps (sp0 n (cleanL rels))) := Lib.hid rfl
 clear hw0 HRR HBN HPE
 generalize cleanL rels = L at *
 go_wp2_with ((with_reducible refine wpList_sel 15 ?_); refine wpList_val rfl (r_loadAt 24 (.tmp 2) _ _ rfl rfl (load40 HBP.out)) ?_)
 refine H39.out.mono ?_
 rintro e w1 ⟨⟨A,c,rfl,ht⟩,hb⟩
 have HP1 := Lib.hid ((hb.block _ (Array.getElem?_eq_some_iff.1 HBP.out).1).trans HBP.out)
 obtain ⟨w2,hw2⟩ : ∃ w2,w2 = w1.setRow w.heap.size #[.int .i64 (n : Int), .slice A L.length c] := ⟨_,rfl⟩
 have hz2 : w2.heap.size = w1.heap.size := by rw [hw2]; exact setRow_size _ _ _
 have HX2 : Hid (∀ W,Below w2.heap.size w2 W -> W.heap[w.heap.size]? = some (.cells #[.int .i64 (n : Int), .slice A L.length c] 24 (0,0)) /\ W.heap[w.heap.size + 1]? = some (.cells zero40 24 (0,0))) := Lib.hid fun W h => by
   have h1 : w2.heap[w.heap.size]? = some (.cells #[.int .i64 (n : Int), .slice A L.length c] 24 (0,0)) := by rw [hw2]; exact setRow_heap _ _ _ _ _ _ HP1.out
   have h2 : w2.heap[w.heap.size + 1]? = some (.cells zero40 24 (0,0)) := by rw [hw2]; exact (setRow_ne (by omega)).trans ((hb.block _ (Array.getElem?_eq_some_iff.1 HBR.out).1).trans HBR.out)
   exact ⟨(h.block _ (Array.getElem?_eq_some_iff.1 h1).1).trans h1,(h.block _ (Array.getElem?_eq_some_iff.1 h2).1).trans h2⟩
 have HB2 : Hid (Below w.heap.size w w2) := Lib.hid (by rw [hw2]; exact below_setRow (HB0.out.trans (hb.mono HB0.out.size)) (Nat.le_refl _) _)
 have HT2 : Hid (TabI (w.heap.size + 2) w2.heap.size w2 (.slice A L.length c) L) := Lib.hid (by
   rw [hz2,hw2]
   exact (ht.keep fun q hq _ => setRow_ne (by have := HWS.out; omega)).mono (by rw [HWS.out]; exact Nat.le_refl _) (Nat.le_refl _))
 have HZ2 : Hid (w.heap.size + 2 <= w2.heap.size) := Lib.hid (by have := hb.size; have := HWS.out; omega)
 have HW2 := Lib.hid hw2
 clear hb ht H39 hw2 hz2
 go_wp2_with ((with_reducible refine wpList_selStore 24 2 17 ?_); refine wpList_skip rfl (r_store40 (.tmp 2) (.tmp 17) rfl w.heap.size _ #[.int .i64 (n : Int), .slice A L.length c] rfl rfl HP1.out rfl rfl (by kernel_rfl)) ?_; rw [<- HW2.out])
 go_loopw [9,10,11] (fun v9 v10 v11 wr => ∃ (k : Nat) (B : Option Addr) (b : Nat) (C : Option Addr) (d : Nat) (F : Nat -> Prop),k <= n /\ v9 = .slice B k b /\ v10 = .slice C k d /\ v11 = .int .i64 ((k : Int) + 1) /\ Hid (LS w2.heap.size F wr (.slice B k b) (.slice C k d) (rowsN k) (numsN k) /\ Below w2.heap.size w2 wr)) (fun _ _ v11 _ => n + 1 - (intOf v11).toNat)
 case atStart => exact ⟨0,none,0,none,0,_,Nat.zero_le _,rfl,rfl,rfl,Lib.hid ⟨LS.nil _ _,Below.refl _ _⟩⟩
 case round =>
   obtain ⟨k,B,b,C,d,F,hk,rfl,rfl,rfl,HK⟩ := hrel
   have hk0 : (0 : Int) <= (k : Int) := Int.natCast_nonneg _
   obtain ⟨hx1,hx2⟩ := HX2.out wr HK.out.2
   by_cases hlt : k < n
   · have hlt' : (k : Int) + 1 <= (n : Int) := by omega
     obtain ⟨x0, -⟩ := cell_of2 hx1
     clear hx1 hx2
     have hz : -9223372036854775808 <= (k : Int) + 1 /\ (k : Int) + 1 <= 9223372036854775807 := by omega
     have hal1 : Below wr.heap.size wr (wr.alloc (.cells #[.int .i64 ((k : Int) + 1)] 3)) := (Below.refl _ _).alloc (Nat.le_refl _) _
     have hal2 : Below wr.heap.size wr ((wr.alloc (.cells #[.int .i64 ((k : Int) + 1)] 3)).alloc (.cells #[.slice (some ⟨wr.heap.size,0,none⟩) 1 1] 36)) := hal1.alloc (by simp) _
     have hb1 : ((wr.alloc (.cells #[.int .i64 ((k : Int) + 1)] 3)).alloc (.cells #[.slice (some ⟨wr.heap.size,0,none⟩) 1 1] 36)).heap[wr.heap.size]? = some (.cells #[.int .i64 ((k : Int) + 1)] 3 (0,0)) := (Below.heap_alloc _ _ _ (by simp)).trans (heap_alloc_new wr _)
     have hb2 : ((wr.alloc (.cells #[.int .i64 ((k : Int) + 1)] 3)).alloc (.cells #[.slice (some ⟨wr.heap.size,0,none⟩) 1 1] 36)).heap[wr.heap.size + 1]? = some (.cells #[.slice (some ⟨wr.heap.size,0,none⟩) 1 1] 36 (0,0)) := by
       have := heap_alloc_new (wr.alloc (.cells #[.int .i64 ((k : Int) + 1)] 3)) (.cells #[.slice (some ⟨wr.heap.size,0,none⟩) 1 1] 36); rwa [World.size_alloc] at this
     obtain ⟨A5,c5,w5,hr5,hS5,hg5⟩ := (HK.out.1.below hal2).pushRow (u := .slice (some ⟨wr.heap.size + 1,0,none⟩) 1 1) (z := (k : Int) + 1) (sl_one1 hb2) hb1 HK.out.2.size (fun e => by have := owns_lt HK.out.1.row e; omega) hz (by rw [rowsN_len]; omega) (Nat.le_trans HK.out.2.size hal2.size)
     have hbb : Below w2.heap.size w2 w5 := by
       refine (HK.out.2.trans (hal2.mono HK.out.2.size)).grown hg5 (Nat.le_trans HK.out.2.size hal2.size) fun r hr => ?_
       exact ((HK.out.1.below hal2).out.block r hr).1
     have hal3 : Below w5.heap.size w5 (w5.alloc (.cells #[.int .i64 ((k : Int) + 1)] 3)) := (Below.refl _ _).alloc (Nat.le_refl _) _
     obtain ⟨A6,c6,w6,hr6,hS6,hg6⟩ := (hS5.below hal3).pushNum (z := (k : Int) + 1) (ints_one w5 ((k : Int) + 1) hz) (by rw [numsN_len]; omega) (Nat.le_trans hbb.size hal3.size)
     have hbb2 : Below w2.heap.size w2 w6 := by
       refine (hbb.trans (hal3.mono hbb.size)).grown hg6 (Nat.le_trans hbb.size hal3.size) fun r hr => ?_
       exact (owns_block (hS5.below hal3).row r hr).1
     rw [rowsN_len] at hr5 hS6
     rw [numsN_len] at hr6 hS6
     rw [<- rowsN_succ, <- numsN_succ] at hS6
     have HR5 := Lib.hid hr5
     have HR6 := Lib.hid hr6
     have HS6 := Lib.hid hS6
     have HB6 := Lib.hid hbb2
     clear hal1 hal2 hb1 hb2 hr5 hS5 hg5 hbb hal3 hr6 hS6 hg6 hbb2 hz
     go_wp2_with (first
       | ((with_reducible refine wpList_sel 40 ?_); refine wpList_val rfl (r_app (.tmp 36) (.tmp 39) 22 rfl rfl rfl HR5.out) ?_)
       | ((with_reducible refine wpList_sel 44 ?_); refine wpList_val rfl (r_app (.tmp 41) (.tmp 43) 35 rfl rfl rfl HR6.out) ?_))
     go_roundw
     case rel => exact ⟨k + 1,A5,c5,A6,c6,_,by omega,rfl,rfl,by go_num,Lib.hid ⟨HS6.out,HB6.out⟩⟩
     case measure => simp [intOf]; omega
   · obtain rfl : n = k := by omega
     have HS0 : Hid (SimR w n rels steps steps (sp0 n L) wr A c B b C d) := Lib.hid (by
       have e1 : (sp0 n L).into.length = n := by simp [sp0]
       have e2 : (sp0 n L).back.length = n := by simp [sp0]
       refine ⟨hx1,hx2,(HT2.out.below HK.out.2 (Nat.le_refl _)).mono (Nat.le_refl _) HK.out.2.size, ?_, ?_,okay0 HCL.out,fun z hz => ?_,HSE.out.symm,HB2.out.trans (HK.out.2.mono HB2.out.size),Nat.le_trans HZ2.out HK.out.2.size⟩
       · rw [e1]
         exact (TabI.of_out (e := 36) (F := F) (w0 := w2) ⟨HK.out.2,HK.out.1.out,HK.out.1.fs⟩).mono HZ2.out (Nat.le_refl _)
       · rw [e2]
         exact owns_base HK.out.1.row HZ2.out
       · obtain ⟨i, -,rfl⟩ := List.mem_map.1 hz
         simp)
     obtain ⟨x0, -⟩ := cell_of2 hx1
     clear hx1 hx2 HK HX2 HB2 HT2 HSE HW2 HCL HP1
     go_wp2_with fail
     clear x0
     go_loopw [5,6,7,8,9,10,12,13] (fun _ _ _ _ v9 v10 v12 _ wr => ∃ (j : Nat) (s : Sp) (A : Option Addr) (a : Nat) (B : Option Addr) (b : Nat) (C : Option Addr) (c : Nat),j <= steps /\ v9 = .slice B s.into.length b /\ v10 = .slice C s.back.length c /\ v12 = .int .i64 (j : Int) /\ Hid (SimR w n rels steps (steps - j) s wr A a B b C c)) (fun _ _ _ _ _ _ v12 _ _ => steps - (intOf v12).toNat)
     case atStart => exact ⟨0,sp0 n L,A,c,B,b,C,d,Nat.zero_le _,by simp [sp0],by simp [sp0],rfl,HS0⟩
     case round =>
       clear HS0
       obtain ⟨j,s,A,a,B,b,C,c,hj,rfl,rfl,rfl,HJ⟩ := hrel
       have hj0 : (0 : Int) <= (j : Int) := Int.natCast_nonneg _
       by_cases hlt : j < steps
       · have hlt' : (j : Int) < (steps : Int) := by omega
         obtain ⟨m,hm⟩ : ∃ m,steps - j = m + 1 := ⟨steps - j - 1,by omega⟩
         rw [hm] at HJ
         have HM : Hid (steps - (j + 1) = m) := Lib.hid (by omega)
         clear hm
         have hE := eliminated46_any n s wr (.slice A s.rels.length a) (.slice B s.into.length b) (.slice C s.back.length c) HJ.out.rl.tab HJ.out.into.tab (OwnI.ints HJ.out.back (back_fits HJ.out.ok hg2)) HJ.out.ok hg2 HJ.out.il
         unfold REl46 at hE
         have HBX := Lib.hid HJ.out.box
         cases hel : s.elim with
         | none =>
           rw [hel] at hE
           have HC := Lib.hid hE
           clear hE
           go_wp2_with ((with_reducible refine wpList_sel 51 ?_); refine wpList_val rfl (r_loadAt 24 (.tmp 2) _ _ rfl rfl (load40 HBX.out)) ?_)
           refine HC.out.mono ?_
           rintro e w3 ⟨rfl,hb⟩
           have HP3 := Lib.hid (HJ.out.box' hb)
           have HS3 := Lib.hid (HJ.out.same hb)
           obtain ⟨w4,hw4⟩ : ∃ w4,w4 = w3.setRow w.heap.size #[.int .i64 (s.n : Int), .slice A s.rels.length a] := ⟨_,rfl⟩
           rw [<- hw4] at HS3
           have HW4 := Lib.hid hw4
           have HP4 := Lib.hid HS3.out.box
           have hF := shorten42_any w4 (.slice A s.rels.length a) s.n s.rels HS3.out.rl.tab HS3.out.ok.cln
           unfold RShF at hF
           clear hb hw4 HJ HC
           cases hsh : shortF s.rels with
           | none =>
             rw [hsh] at hF
             have HF := Lib.hid hF
             have HEQ : Hid (simpTo (m + 1) s = .inl s) := Lib.hid (by rw [simpTo,hel]; simp only [hsh])
             clear hF hel hsh
             go_wp2_with (first
               | ((with_reducible refine wpList_selStore 24 2 55 ?_); refine wpList_skip rfl (r_store40 (.tmp 2) (.tmp 55) rfl w.heap.size _ #[.int .i64 (s.n : Int), .slice A s.rels.length a] rfl rfl HP3.out rfl rfl (by kernel_rfl)) ?_; rw [<- HW4.out])
               | ((with_reducible refine wpList_sel 67 ?_); refine wpList_val rfl (r_loadAt 24 (.tmp 2) _ _ rfl rfl (load40 HP4.out)) ?_))
             refine HF.out.mono ?_
             rintro e w5 ⟨rfl,hb⟩
             have HP5 := Lib.hid (HS3.out.box' hb)
             have HS5 := Lib.hid (HS3.out.same hb)
             clear hb
             obtain ⟨w6,hw6⟩ : ∃ w6,w6 = w5.setRow w.heap.size #[.int .i64 (s.n : Int), .slice A s.rels.length a] := ⟨_,rfl⟩
             rw [<- hw6] at HS5
             have HW6 := Lib.hid hw6
             have HS6 : Hid (SimR w n rels steps 0 s w6 A a B b C c) := Lib.hid { HS5.out with eq := by have := HS5.out.eq; rw [HEQ.out] at this; exact this }
             clear hw6
             have HBX9 := Lib.hid HS6.out.box
             have HRX9 := Lib.hid HS6.out.res
             have HEQ9 : Hid (simpE n rels steps = .inl s) := Lib.hid HS6.out.eq.symm
             go_wp2_with (first
               | ((with_reducible refine wpList_selStore 24 2 69 ?_); refine wpList_skip rfl (r_store40 (.tmp 2) (.tmp 69) rfl w.heap.size _ #[.int .i64 (s.n : Int), .slice A s.rels.length a] rfl rfl HP5.out rfl rfl (by kernel_rfl)) ?_; rw [<- HW6.out])
                             | ((with_reducible refine wpList_sel 73 ?_); refine wpList_val rfl (r_loadAt 24 (.tmp 2) _ _ rfl rfl (load40 HBX9.out)) ?_)
               | ((with_reducible refine wpList_selStore 24 4 73 ?_); refine wpList_skip rfl (r_store40 (.tmp 4) (.tmp 73) rfl (w.heap.size + 1) zero40 #[.int .i64 (s.n : Int), .slice A s.rels.length a] rfl rfl HRX9.out rfl rfl (by kernel_rfl)) ?_))
             try simp only [Exit.inBlock,Exit.then]
             refine bodyPost_ret (results_27_4 (p := 4) (q := 5) (r := 6) (t := 7) rfl _ _ (w.heap.size + 1) #[.int .i64 (s.n : Int), .slice A s.rels.length a] (.slice B s.into.length b) (.slice C s.back.length c) (.int .i64 0) rfl rfl rfl rfl (setRow_heap _ _ _ _ _ _ HRX9.out) rfl) rfl ⟨?_,below_setRow HS6.out.below (Nat.le_succ _) _⟩
             rw [HEQ9.out]
             refine ⟨A,a,B,b,C,c,rfl,(HS6.out.rl.keep fun q hq _ => setRow_ne (by omega)).tab,(HS6.out.into.keep fun q hq _ => setRow_ne (by omega)).tab,OwnI.ints (owns_keep HS6.out.back fun r hr => setRow_ne fun e => ?_) (back_fits HS6.out.ok hg2)⟩
             have := (owns_block HS6.out.back r hr).1
             omega
           | some l =>
             rw [hsh] at hF
             have HF := Lib.hid hF
             have HEQ : Hid (simpTo (m + 1) s = simpTo m { s with rels := l }) := Lib.hid (by rw [simpTo,hel]; simp only [hsh])
             have HOK : Hid (Okay n { s with rels := l }) := Lib.hid (HS3.out.ok.step (.short hsh))
             clear hF hel hsh
             go_wp2_with (first
               | ((with_reducible refine wpList_selStore 24 2 55 ?_); refine wpList_skip rfl (r_store40 (.tmp 2) (.tmp 55) rfl w.heap.size _ #[.int .i64 (s.n : Int), .slice A s.rels.length a] rfl rfl HP3.out rfl rfl (by kernel_rfl)) ?_; rw [<- HW4.out])
               | ((with_reducible refine wpList_sel 67 ?_); refine wpList_val rfl (r_loadAt 24 (.tmp 2) _ _ rfl rfl (load40 HP4.out)) ?_))
             refine HF.out.mono ?_
             rintro e w5 ⟨⟨A5,c5,rfl,h5⟩,hb⟩
             have HP5 := Lib.hid (HS3.out.box' hb)
             have HS5 : Hid (SimR w n rels steps m { s with rels := l } (w5.setRow w.heap.size #[.int .i64 (s.n : Int), .slice A5 l.length c5]) A5 c5 B b C c) := Lib.hid (HS3.out.set (s' := { s with rels := l }) hb (h5.mono HS3.out.size (Nat.le_refl _)) (HS3.out.into' hb) (owns_below HS3.out.back hb) HOK.out HS3.out.il (HEQ.out.symm.trans HS3.out.eq))
             clear hb h5
             go_wp2_with ((with_reducible refine wpList_selStore 24 2 69 ?_); refine wpList_skip rfl (r_store40 (.tmp 2) (.tmp 69) rfl w.heap.size _ #[.int .i64 (s.n : Int), .slice A5 l.length c5] rfl rfl HP5.out rfl rfl (by kernel_rfl)) ?_)
             go_roundw
             case rel => exact ⟨j + 1, { s with rels := l },A5,c5,B,b,C,c,by omega,rfl,rfl,by go_num,by rw [HM.out]; exact HS5⟩
             case measure => simp [intOf]; omega
         | some o =>
           cases o with
           | inl s' =>
             rw [hel] at hE
             have HC := Lib.hid hE
             have HEQ : Hid (simpTo (m + 1) s = simpTo m s') := Lib.hid (by rw [simpTo,hel])
             have HOK : Hid (Okay n s') := Lib.hid (HJ.out.ok.step (elim_step hel))
             have HIL := Lib.hid (elim_il hel)
             clear hE hel
             go_wp2_with ((with_reducible refine wpList_sel 51 ?_); refine wpList_val rfl (r_loadAt 24 (.tmp 2) _ _ rfl rfl (load40 HBX.out)) ?_)
             refine HC.out.mono ?_
             rintro e w3 ⟨⟨A5,a5,B5,b5,C5,c5,rfl,h5,h6,h7⟩,hb⟩
             have HP3 := Lib.hid (HJ.out.box' hb)
             have HS3 : Hid (SimR w n rels steps m s' (w3.setRow w.heap.size #[.int .i64 (s'.n : Int), .slice A5 s'.rels.length a5]) A5 a5 B5 b5 C5 c5) := Lib.hid (HJ.out.set hb (h5.mono HJ.out.size (Nat.le_refl _)) (h6.mono HJ.out.size (Nat.le_refl _)) (owns_base h7 HJ.out.size) HOK.out HIL.out (HEQ.out.symm.trans HJ.out.eq))
             clear hb h5 h6 h7 HC HJ HBX
             go_wp2_with ((with_reducible refine wpList_selStore 24 2 55 ?_); refine wpList_skip rfl (r_store40 (.tmp 2) (.tmp 55) rfl w.heap.size _ #[.int .i64 (s'.n : Int), .slice A5 s'.rels.length a5] rfl rfl HP3.out rfl rfl (by kernel_rfl)) ?_)
             go_roundw
             case rel => exact ⟨j + 1,s',A5,a5,B5,b5,C5,c5,by omega,rfl,rfl,by go_num,by rw [HM.out]; exact HS3⟩
             case measure => simp [intOf]; omega
           | inr u =>
             rw [hel] at hE
             have HC := Lib.hid hE
             have HEQ : Hid (simpE n rels steps = .inr u) := Lib.hid (by rw [<- HJ.out.eq,simpTo,hel])
             clear hE hel
             go_wp2_with ((with_reducible refine wpList_sel 51 ?_); refine wpList_val rfl (r_loadAt 24 (.tmp 2) _ _ rfl rfl (load40 HBX.out)) ?_)
             refine HC.out.mono ?_
             rintro e w3 ⟨rfl,hb⟩
             have HP3 := Lib.hid (HJ.out.box' hb)
             have HS3 := Lib.hid (HJ.out.same hb)
             have HX3 := Lib.hid HS3.out.res
             clear hb
             go_wp2_with (first
               | ((with_reducible refine wpList_selStore 24 2 55 ?_); refine wpList_skip rfl (r_store40 (.tmp 2) (.tmp 55) rfl w.heap.size _ #[.int .i64 (s.n : Int), .slice A s.rels.length a] rfl rfl HP3.out rfl rfl (by kernel_rfl)) ?_)
               | ((with_reducible refine wpList_sel 62 ?_); refine wpList_val rfl (r_build40 rfl) ?_; refine wpList_val rfl (r_move (v := .int .i64 4) (.tmp 8) rfl rfl) ?_; refine wpList_skip rfl (r_store40 (.tmp 4) (.tmp 62) rfl (w.heap.size + 1) zero40 zero40 rfl rfl HX3.out rfl rfl zero40_one) ?_))
             try simp only [Exit.inBlock,Exit.then]
             refine bodyPost_ret (results_27_4 (p := 4) (q := 5) (r := 6) (t := 7) rfl _ _ (w.heap.size + 1) zero40 (.slice none 0 0) (.slice none 0 0) (.int .i64 4) rfl rfl rfl rfl (setRow_heap _ _ _ _ _ _ HX3.out) rfl) rfl ⟨?_,below_setRow HS3.out.below (Nat.le_succ _) _⟩
             rw [HEQ.out]
             rfl
       · obtain rfl : steps = j := by omega
         rw [Nat.sub_self] at HJ
         have HBX9 := Lib.hid HJ.out.box
         have HRX9 := Lib.hid HJ.out.res
         have HEQ9 : Hid (simpE n rels steps = .inl s) := Lib.hid HJ.out.eq.symm
         go_wp2_with (first
           | ((with_reducible refine wpList_sel 73 ?_); refine wpList_val rfl (r_loadAt 24 (.tmp 2) _ _ rfl rfl (load40 HBX9.out)) ?_)
           | ((with_reducible refine wpList_selStore 24 4 73 ?_); refine wpList_skip rfl (r_store40 (.tmp 4) (.tmp 73) rfl (w.heap.size + 1) zero40 #[.int .i64 (s.n : Int), .slice A s.rels.length a] rfl rfl HRX9.out rfl rfl (by kernel_rfl)) ?_))
         try simp only [Exit.inBlock,Exit.then]
         refine bodyPost_ret (results_27_4 (p := 4) (q := 5) (r := 6) (t := 7) rfl _ _ (w.heap.size + 1) #[.int .i64 (s.n : Int), .slice A s.rels.length a] (.slice B s.into.length b) (.slice C s.back.length c) (.int .i64 0) rfl rfl rfl rfl (setRow_heap _ _ _ _ _ _ HRX9.out) rfl) rfl ⟨?_,below_setRow HJ.out.below (Nat.le_succ _) _⟩
         rw [HEQ9.out]
         refine ⟨A,a,B,b,C,c,rfl,(HJ.out.rl.keep fun q hq _ => setRow_ne (by omega)).tab,(HJ.out.into.keep fun q hq _ => setRow_ne (by omega)).tab,OwnI.ints (owns_keep HJ.out.back fun r hr => setRow_ne fun e => ?_) (back_fits HJ.out.ok hg2)⟩
         have := (owns_block HJ.out.back r hr).1
         omega
end Go.Proofs
namespace Go.Proofs
open Go.RowKit Go.Shelf Go.Lib Go.Sort Go.Proofs.Ct Go.Proofs.Tz Go.Maps
theorem bl3 {a b c : World} (h1 : Below a.heap.size a b) (h2 : Below b.heap.size b c) : Below a.heap.size a c := h1.trans (h2.mono h1.size)
theorem below_sz {w W : World} {o : Obj} (h : Below (w.heap.size + 1) (w.alloc o) W) : Below (w.alloc o).heap.size (w.alloc o) W := by rw [World.size_alloc]; exact h
theorem lit3 (w : World) (x y z : List Int) (hx : Fits x) (hy : Fits y) (hz : Fits z) {n m l : Nat} (hn : x.length = n) (hm : y.length = m) (hl : z.length = l) (hs : n <= 1000 /\ m <= 1000 /\ l <= 1000) {e : TypeId} :
   Tab ((((w.alloc (.cells (ints x).toArray 3)).alloc (.cells (ints y).toArray 3)).alloc (.cells (ints z).toArray 3)).alloc (.cells #[.slice (some ⟨w.heap.size,0,none⟩) n n, .slice (some ⟨w.heap.size + 1,0,none⟩) m m, .slice (some ⟨w.heap.size + 1 + 1,0,none⟩) l l] e)) (.slice (some ⟨w.heap.size + 1 + 1 + 1,0,none⟩) 3 3) [x,y,z] := by
 have h1 := ints_lit w x hx n hn hs.1
 have h2 := ints_lit (w.alloc (.cells (ints x).toArray 3)) y hy m hm hs.2.1
 have h3 := ints_lit ((w.alloc (.cells (ints x).toArray 3)).alloc (.cells (ints y).toArray 3)) z hz l hl hs.2.2
 have h4 := tab_three _ _ _ _ _ _ _ (h1.below (((Below.refl _ _).alloc (Nat.le_refl _) _).alloc (by simp) _)) (h2.below ((Below.refl _ _).alloc (Nat.le_refl _) _)) h3 (e := e)
 simp only [World.size_alloc] at h4
 exact h4
theorem lit3_below (w : World) (x y z : List Int) (n m l : Nat) {e : TypeId} : Below w.heap.size w ((((w.alloc (.cells (ints x).toArray 3)).alloc (.cells (ints y).toArray 3)).alloc (.cells (ints z).toArray 3)).alloc (.cells #[.slice (some ⟨w.heap.size,0,none⟩) n n, .slice (some ⟨w.heap.size + 1,0,none⟩) m m, .slice (some ⟨w.heap.size + 1 + 1,0,none⟩) l l] e)) :=
 ((((Below.refl _ _).alloc (Nat.le_refl _) _).alloc (by simp) _).alloc (by simp; omega) _).alloc (by simp; omega) _
theorem lit4 (w : World) (x y z q : List Int) (hx : Fits x) (hy : Fits y) (hz : Fits z) (hq : Fits q) {n m l k : Nat} (hn : x.length = n) (hm : y.length = m) (hl : z.length = l) (hk : q.length = k) (hs : n <= 1000 /\ m <= 1000 /\ l <= 1000 /\ k <= 1000) {e : TypeId} :
   Tab (((((w.alloc (.cells (ints x).toArray 3)).alloc (.cells (ints y).toArray 3)).alloc (.cells (ints z).toArray 3)).alloc (.cells (ints q).toArray 3)).alloc (.cells #[.slice (some ⟨w.heap.size,0,none⟩) n n, .slice (some ⟨w.heap.size + 1,0,none⟩) m m, .slice (some ⟨w.heap.size + 1 + 1,0,none⟩) l l, .slice (some ⟨w.heap.size + 1 + 1 + 1,0,none⟩) k k] e)) (.slice (some ⟨w.heap.size + 1 + 1 + 1 + 1,0,none⟩) 4 4) [x,y,z,q] := by
 have h1 := ints_lit w x hx n hn hs.1
 have h2 := ints_lit (w.alloc (.cells (ints x).toArray 3)) y hy m hm hs.2.1
 have h3 := ints_lit ((w.alloc (.cells (ints x).toArray 3)).alloc (.cells (ints y).toArray 3)) z hz l hl hs.2.2.1
 have h4 := ints_lit (((w.alloc (.cells (ints x).toArray 3)).alloc (.cells (ints y).toArray 3)).alloc (.cells (ints z).toArray 3)) q hq k hk hs.2.2.2
 have b : ∀ (W : World) (o : Obj),Below W.heap.size W (W.alloc o) := fun W o => (Below.refl _ _).alloc (Nat.le_refl _) _
 have h5 := heap_alloc_new ((((w.alloc (.cells (ints x).toArray 3)).alloc (.cells (ints y).toArray 3)).alloc (.cells (ints z).toArray 3)).alloc (.cells (ints q).toArray 3)) (.cells #[.slice (some ⟨w.heap.size,0,none⟩) n n, .slice (some ⟨w.heap.size + 1,0,none⟩) m m, .slice (some ⟨w.heap.size + 1 + 1,0,none⟩) l l, .slice (some ⟨w.heap.size + 1 + 1 + 1,0,none⟩) k k] e)
 simp only [World.size_alloc] at h2 h3 h4 h5
 exact tab_blk (us := [.slice (some ⟨w.heap.size,0,none⟩) n n, .slice (some ⟨w.heap.size + 1,0,none⟩) m m, .slice (some ⟨w.heap.size + 1 + 1,0,none⟩) l l, .slice (some ⟨w.heap.size + 1 + 1 + 1,0,none⟩) k k]) h5 rfl rfl (by simp) fun i hi => by
   have : i = 0 \/ i = 1 \/ i = 2 \/ i = 3 := by simp at hi; omega
   rcases this with rfl | rfl | rfl | rfl
   · exact (((h1.below (b _ _)).below (b _ _)).below (b _ _)).below (b _ _)
   · exact ((h2.below (b _ _)).below (b _ _)).below (b _ _)
   · exact (h3.below (b _ _)).below (b _ _)
   · exact h4.below (b _ _)
theorem lit4_below (w : World) (x y z q : List Int) (n m l k : Nat) {e : TypeId} : Below w.heap.size w (((((w.alloc (.cells (ints x).toArray 3)).alloc (.cells (ints y).toArray 3)).alloc (.cells (ints z).toArray 3)).alloc (.cells (ints q).toArray 3)).alloc (.cells #[.slice (some ⟨w.heap.size,0,none⟩) n n, .slice (some ⟨w.heap.size + 1,0,none⟩) m m, .slice (some ⟨w.heap.size + 1 + 1,0,none⟩) l l, .slice (some ⟨w.heap.size + 1 + 1 + 1,0,none⟩) k k] e)) :=
 (((((Below.refl _ _).alloc (Nat.le_refl _) _).alloc (by simp) _).alloc (by simp; omega) _).alloc (by simp; omega) _).alloc (by simp; omega) _
theorem simpK (n : Nat) (rels : List (List Int)) (steps : Nat) (m : Nat) (R I : List (List Int)) (B : List Int) (a b c : Nat) (h1 : presE n rels = 0) (h2 : simpE n rels steps = .inl ⟨m,R,I,B⟩) (hs : steps <= 1000) (ha : R.length = a) (hb : I.length = b) (hc : B.length = c) (W : World) (vr : Value) (hr : Tab W vr rels) :
   Calls Tryz.prog 18 #[.agg #[.int .i64 (n : Int),vr], .int .i64 (steps : Int)] W fun e w' => (∃ A1 c1 A2 c2 A3 c3,e = .returned (.tuple #[.agg #[.int .i64 (m : Int), .slice A1 a c1], .slice A2 b c2, .slice A3 c c3, .int .i64 0]) /\ Tab w' (.slice A1 a c1) R /\ Tab w' (.slice A2 b c2) I /\ IntsAt w' (.slice A3 c c3) B) /\ Below W.heap.size W w' :=
 (simplify10_ok W vr n rels steps hr h1 hs).mono fun e w' ⟨h,hB⟩ => by
   rw [h2] at h
   subst ha hb hc
   obtain ⟨A,a,B,b,C,c,e1,t1,t2,t3⟩ := h
   exact ⟨⟨A,a,B,b,C,c,e1,t1,t2,t3⟩,hB⟩
theorem sameK {W : World} {va vb : Value} {g : Int} {A : List (List Int)} (ha : Tab W va A) (hb : Tab W vb A) : Calls Tryz.prog 13 #[.agg #[.int .i64 g,va], .agg #[.int .i64 g,vb]] W fun e w' => e = .returned (.bool true) /\ Below W.heap.size W w' :=
 (same26_any W va vb g g A A ha hb).mono fun e w' ⟨h1,h2⟩ => ⟨h1.trans (ret_bool (by simp)),h2⟩
theorem equalK {W : World} {va vb : Value} {A : List (List Int)} (ha : Tab W va A) (hb : Tab W vb A) : Calls Tryz.prog 14 #[va,vb] W fun e w' => e = .returned (.bool true) /\ Below W.heap.size W w' :=
 (equal8_any W va vb A A ha hb).mono fun e w' ⟨h1,h2⟩ => ⟨h1.trans (ret_bool (by simp)),h2⟩
theorem numbersK {W : World} {va vb : Value} {A : List Int} (ha : IntsAt W va A) (hb : IntsAt W vb A) : Calls Tryz.prog 20 #[va,vb] W fun e w' => e = .returned (.bool true) /\ Below W.heap.size W w' :=
 (numbers11_any W va vb A A ha hb).mono fun e w' ⟨h1,h2⟩ => ⟨h1.trans (ret_bool (by simp)),h2⟩
theorem pres_awake : presE 3 [[3, -2, -1], [1,1], [2,2,2], [3,3]] = 0 := by decide +kernel
theorem simp_awake : simpE 3 [[3, -2, -1], [1,1], [2,2,2], [3,3]] 100 = .inl ⟨2, [[1,1], [2,2,2], [1,2,1,2]], [[1], [2], [1,2]], [1,2]⟩ := by kernel_rfl
end Go.Proofs
namespace Go.Proofs
open Go.RowKit Go.Shelf Go.Lib Go.Sort Go.Proofs.Ct Go.Proofs.Tz Go.Maps
set_option maxRecDepth 100000 in
set_option maxHeartbeats 4000000 in
theorem awake12_any (w : World) : Calls Tryz.prog 8 #[] w fun e w' => e = .returned (.bool true) /\ Below w.heap.size w w' := by
 have HS1 := Lib.hid (simpK 3 [[3, -2, -1], [1,1], [2,2,2], [3,3]] 100 2 [[1,1], [2,2,2], [1,2,1,2]] [[1], [2], [1,2]] [1,2] 3 3 2 pres_awake simp_awake (by decide) rfl rfl rfl)
 go_enter Tryz.func8,Tryz.ntmps8
 have HB0 := Lib.hid (Below.refl w.heap.size w)
 have ht := lit4 w [3, -2, -1] [1,1] [2,2,2] [3,3] (fits_lit (by decide)) (fits_lit (by decide)) (fits_lit (by decide)) (fits_lit (by decide)) rfl rfl rfl rfl (by decide) (e := 36)
 have hx := lit4_below w [3, -2, -1] [1,1] [2,2,2] [3,3] 3 2 3 2 (e := 36)
 have HT1 := Lib.hid ht
 have HL2 := Lib.hid hx
 clear ht hx
 have HB3 := Lib.hid (bl3 HB0.out HL2.out)
 clear HB0
 go_wp2_with fail
 refine (HS1.out _ _ HT1.out).mono ?_
 rintro e v4 ⟨⟨A1,c1,A2,c2,A3,c3,rfl,t1,t2,t3⟩,hb⟩
 have HB5 := Lib.hid (bl3 HB3.out hb)
 have HF6 := Lib.hid (kept_tab.below HT1.out hb)
 clear HT1
 clear HB3
 have HF7 := Lib.hid t1
 clear t1
 have HF8 := Lib.hid t2
 clear t2
 have HF9 := Lib.hid t3
 clear t3
 clear hb
 clear HF6
 have HN10 : Hid ((v4.alloc (.cells #[.int .i64 2, .slice A1 3 c1] 24)).heap[v4.heap.size]? = some (.cells #[.int .i64 2, .slice A1 3 c1] 24 (0,0))) := Lib.hid (heap_alloc_new _ _)
 have HL11 : Hid (Below v4.heap.size v4 (v4.alloc (.cells #[.int .i64 2, .slice A1 3 c1] 24))) := Lib.hid ((Below.refl _ _).alloc (Nat.le_refl _) _)
 have HB12 := Lib.hid (bl3 HB5.out HL11.out)
 have HF13 := Lib.hid (kept_tab.below HF7.out HL11.out)
 clear HF7
 have HF14 := Lib.hid (kept_tab.below HF8.out HL11.out)
 clear HF8
 have HF15 := Lib.hid (IntsAt.below HF9.out HL11.out)
 clear HF9
 clear HB5
 clear HL11
 have ht := lit3 (v4.alloc (.cells #[.int .i64 2, .slice A1 3 c1] 24)) [1,1] [2,2,2] [1,2,1,2] (fits_lit (by decide)) (fits_lit (by decide)) (fits_lit (by decide)) rfl rfl rfl (by decide) (e := 36)
 have hx := lit3_below (v4.alloc (.cells #[.int .i64 2, .slice A1 3 c1] 24)) [1,1] [2,2,2] [1,2,1,2] 2 3 4 (e := 36)
 simp only [World.size_alloc] at ht hx
 replace hx := below_sz hx
 have HT16 := Lib.hid ht
 have HL17 := Lib.hid hx
 clear ht hx
 have HB18 := Lib.hid (bl3 HB12.out HL17.out)
 have HF19 := Lib.hid (kept_tab.below HF13.out HL17.out)
 clear HF13
 have HF20 := Lib.hid (kept_tab.below HF14.out HL17.out)
 clear HF14
 have HF21 := Lib.hid (IntsAt.below HF15.out HL17.out)
 clear HF15
 have HF22 := Lib.hid ((HL17.out.block _ (Array.getElem?_eq_some_iff.1 HN10.out).1).trans HN10.out)
 clear HN10
 clear HB12
 go_wp2_with (first
   | ((with_reducible refine wpList_sel 20 ?_); refine wpList_val rfl (r_loadAt 24 (.tmp 1) _ _ rfl rfl (load40 HN10.out)) ?_))
 refine (sameK HF19.out HT16.out).mono ?_
 rintro e v23 ⟨rfl,hb⟩
 have HB24 := Lib.hid (bl3 HB18.out hb)
 have HF25 := Lib.hid (kept_tab.below HF19.out hb)
 clear HF19
 have HF26 := Lib.hid (kept_tab.below HF20.out hb)
 clear HF20
 have HF27 := Lib.hid (IntsAt.below HF21.out hb)
 clear HF21
 have HF28 := Lib.hid ((hb.block _ (Array.getElem?_eq_some_iff.1 HF22.out).1).trans HF22.out)
 clear HF22
 have HF29 := Lib.hid (kept_tab.below HT16.out hb)
 clear HT16
 clear HB18
 clear hb
 clear HF29
 clear HF25
 clear HF28
 have ht := lit3 v23 [1] [2] [1,2] (fits_lit (by decide)) (fits_lit (by decide)) (fits_lit (by decide)) rfl rfl rfl (by decide) (e := 36)
 have hx := lit3_below v23 [1] [2] [1,2] 1 1 2 (e := 36)
 have HT30 := Lib.hid ht
 have HL31 := Lib.hid hx
 clear ht hx
 have HB32 := Lib.hid (bl3 HB24.out HL31.out)
 have HF33 := Lib.hid (kept_tab.below HF26.out HL31.out)
 clear HF26
 have HF34 := Lib.hid (IntsAt.below HF27.out HL31.out)
 clear HF27
 clear HB24
 go_wp2_with fail
 refine (equalK HF33.out HT30.out).mono ?_
 rintro e v35 ⟨rfl,hb⟩
 have HB36 := Lib.hid (bl3 HB32.out hb)
 have HF37 := Lib.hid (kept_tab.below HF33.out hb)
 clear HF33
 have HF38 := Lib.hid (IntsAt.below HF34.out hb)
 clear HF34
 have HF39 := Lib.hid (kept_tab.below HT30.out hb)
 clear HT30
 clear HB32
 clear hb
 clear HF39
 clear HF37
 have HT40 := Lib.hid (ints_lit v35 [1,2] (fits_lit (by decide)) 2 rfl (by decide))
 have HL41 : Hid (Below v35.heap.size v35 (v35.alloc (.cells (ints [1,2]).toArray 3))) := Lib.hid ((Below.refl _ _).alloc (Nat.le_refl _) _)
 have HB42 := Lib.hid (bl3 HB36.out HL41.out)
 have HF43 := Lib.hid (IntsAt.below HF38.out HL41.out)
 clear HF38
 clear HB36
 go_wp2_with fail
 refine (numbersK HF43.out HT40.out).mono ?_
 rintro e v44 ⟨rfl,hb⟩
 have HB45 := Lib.hid (bl3 HB42.out hb)
 have HF46 := Lib.hid (IntsAt.below HF43.out hb)
 clear HF43
 have HF47 := Lib.hid (IntsAt.below HT40.out hb)
 clear HT40
 clear HB42
 clear hb
 clear HF47
 clear HF46
 go_wp2_with fail
 go_ret
 exact ⟨rfl,HB45.out⟩
end Go.Proofs
namespace Go.Proofs
open Go.RowKit Go.Shelf Go.Lib Go.Sort Go.Proofs.Ct Go.Proofs.Tz Go.Maps
structure VastP (rels : List (List Int)) (e : Ending) : Prop where
 of : ∃ b,e = .returned (.bool b) /\ (b = false -> rels.length <= 12 /\ ∀ j,(rels.getD j []).length <= 40)
set_option maxRecDepth 100000 in
set_option maxHeartbeats 2000000 in
theorem vast7_any (w : World) (g : Int) (vr : Value) (rels : List (List Int)) (hR : Tab w vr rels) : Calls Tryz.prog 7 #[.agg #[.int .i64 g,vr]] w fun e w' => VastP rels e /\ Below w.heap.size w w' := by
 obtain ⟨Ar,cr,rfl⟩ := Tab.form hR
 have hb0 : Below w.heap.size w (w.alloc (.cells #[.int .i64 g, .slice Ar rels.length cr] 24)) := (Below.refl _ _).alloc (Nat.le_refl _) _
 obtain ⟨-,x1⟩ := cell_of2 (heap_alloc_new w (.cells #[.int .i64 g, .slice Ar rels.length cr] 24))
 have hrl1 := hR.len_le
 have hrl0 : (0 : Int) <= (rels.length : Int) := Int.natCast_nonneg _
 have HB0 := Lib.hid hb0
 have HR0 := Lib.hid (kept_tab.below hR hb0)
 clear hR hb0
 go_enter Tryz.func7,Tryz.ntmps7
 go_wp2_with fail
 generalize hw0 : w.alloc (.cells #[.int .i64 g, .slice Ar rels.length cr] 24) = w0 at *
 clear hw0
 go_loopw [2,3] (fun _ vi wr => ∃ i : Nat,vi = .int .i64 (i : Int) /\ i <= rels.length /\ i <= 13 /\ Hid (∀ j,j < i -> (rels.getD j []).length <= 40) /\ wr = w0) (fun _ vi _ => 13 - (intOf vi).toNat)
 case atStart => exact ⟨0,rfl,Nat.zero_le _,Nat.zero_le _,Lib.hid fun j hj => absurd hj (Nat.not_lt_zero j),rfl⟩
 case round =>
   obtain ⟨i,rfl,hi,hi13,HZ,rfl⟩ := hrel
   have hi0 : (0 : Int) <= (i : Int) := Int.natCast_nonneg _
   by_cases hil : i < rels.length
   · have hil' : (i : Int) < (rels.length : Int) := by omega
     by_cases h13 : i < 13
     · have h13' : (i : Int) < 13 := by omega
       obtain ⟨b,o,rfl,hrow⟩ := words_f2 HR0.out (by omega)
       obtain ⟨Au,cu,x2,hu⟩ := hrow wr (Below.refl _ _) i hil
       have hu1 : (rels.getD i []).length <= 9223372036854775807 := by
         obtain ⟨A',c',e',h1,h2, -⟩ := hu.open_
         omega
       have HN : Hid ((rels.getD i []).length <= 40 -> ∀ j,j < i + 1 -> (rels.getD j []).length <= 40) := Lib.hid fun h => all_succ HZ.out h
       clear hrow hu
       generalize (rels.getD i []).length = lu at *
       have hu0 : (0 : Int) <= (lu : Int) := Int.natCast_nonneg _
       by_cases h40 : 40 < lu
       · have h40' : (40 : Int) < (lu : Int) := by omega
         clear h40
         go_wp2_with fail
         go_ret
         exact ⟨⟨true,rfl,fun h => by cases h⟩,HB0.out⟩
       · have h40' : ¬ (40 : Int) < (lu : Int) := by omega
         have HN2 := Lib.hid (HN.out (by omega))
         clear h40
         go_wp2_with fail
         go_roundw
         case rel => exact ⟨i + 1,by go_num,by omega,by omega,HN2,trivial⟩
         case measure => simp [intOf]; omega
     · obtain rfl : i = 13 := by omega
       have hgt : (12 : Int) < (rels.length : Int) := by omega
       go_wp2_with fail
       go_ret
       exact ⟨⟨true,rfl,fun h => by cases h⟩,HB0.out⟩
   · obtain rfl : rels.length = i := by omega
     by_cases h12 : 12 < rels.length
     · have hgt : (12 : Int) < (rels.length : Int) := by omega
       clear h12
       go_wp2_with fail
       go_ret
       exact ⟨⟨true,rfl,fun h => by cases h⟩,HB0.out⟩
     · have hgt : ¬ (12 : Int) < (rels.length : Int) := by omega
       have HL : Hid (rels.length <= 12) := Lib.hid (by omega)
       clear h12
       go_wp2_with fail
       go_ret
       refine ⟨⟨false,rfl,fun _ => ⟨HL.out,fun j => ?_⟩⟩,HB0.out⟩
       rcases Nat.lt_or_ge j rels.length with h | h
       · exact HZ.out j h
       · rw [List.getD_eq_getElem?_getD,List.getElem?_eq_none h]; simp
end Go.Proofs
namespace Go.Proofs
open Go.RowKit Go.Shelf Go.Lib Go.Sort Go.Proofs.Ct Go.Proofs.Tz Go.Maps
def SHP (x m : Int) (R : List (List Int)) (bb : Bool) (w : World) (e : Ending) (w' : World) : Prop :=
 (∃ A c,e = .returned (.tuple #[.agg #[.int .i64 m, .slice A R.length c], .bool bb, .int .i64 x]) /\ Tab w' (.slice A R.length c) R) /\ Below w.heap.size w w'
theorem short_both (g : Int) (rels : List (List Int)) (hsm : ∀ j,(rels.getD j []).length <= 8000000) : ∃ (x m : Int) (R : List (List Int)) (bb : Bool), ∀ (W : World) (vr : Value),Tab W vr rels -> Calls Tryz.prog 16 #[.agg #[.int .i64 g,vr]] W (SHP x m R bb W) /\ Calls Tryz.prog 17 #[.agg #[.int .i64 g,vr]] W (SHP x m R bb W) := by
 by_cases he : presE g rels = 0
 · obtain ⟨n,rfl, -⟩ := presE_good he
   exact ⟨0,n,(shortenE rels).1,(shortenE rels).2,fun W vr h => ⟨(shorten9_ok W vr n rels h he).mono fun _ _ q => q,(shorten17_ok W vr n rels h he).mono fun _ _ q => q⟩⟩
 · exact ⟨presE g rels,0, [],false,fun W vr h => ⟨(shorten9_bad W vr g rels h he).mono fun _ _ q => ⟨⟨none,0,q.1,tab_nil⟩,q.2⟩,(shorten17_bad W vr g rels h hsm he).mono fun _ _ q => ⟨⟨none,0,q.1,tab_nil⟩,q.2⟩⟩⟩
def SIP (x m : Int) (R I : List (List Int)) (B : List Int) (w : World) (e : Ending) (w' : World) : Prop :=
 (∃ A a C c D d,e = .returned (.tuple #[.agg #[.int .i64 m, .slice A R.length a], .slice C I.length c, .slice D B.length d, .int .i64 x]) /\ Tab w' (.slice A R.length a) R /\ Tab w' (.slice C I.length c) I /\ IntsAt w' (.slice D B.length d) B) /\ Below w.heap.size w w'
theorem sip_err {x : Int} {w w' : World} {e : Ending} (h : SimpErr x w e w') : SIP x 0 [] [] [] w e w' := ⟨⟨none,0,none,0,none,0,h.1,tab_nil,tab_nil,ints_nil _⟩,h.2⟩
theorem simp_both (g : Int) (rels : List (List Int)) (steps : Int) (hsm : ∀ j,(rels.getD j []).length <= 8000000) : ∃ (x m : Int) (R I : List (List Int)) (B : List Int), ∀ (W : World) (vr : Value),Tab W vr rels -> Calls Tryz.prog 18 #[.agg #[.int .i64 g,vr], .int .i64 steps] W (SIP x m R I B W) /\ Calls Tryz.prog 19 #[.agg #[.int .i64 g,vr], .int .i64 steps] W (SIP x m R I B W) := by
 by_cases he : presE g rels = 0
 · obtain ⟨n,rfl, -⟩ := presE_good he
   by_cases hb : steps < 0 \/ 1000 < steps
   · exact ⟨2,0, [], [], [],fun W vr h => ⟨(simplify10_range W vr n rels steps h he hb).mono fun _ _ q => sip_err q,(simplify19_range W vr n rels steps h he hb).mono fun _ _ q => sip_err q⟩⟩
   · obtain ⟨k,rfl⟩ : ∃ k : Nat,steps = k := ⟨steps.toNat,by omega⟩
     have hk : k <= 1000 := by omega
     cases hs : simpE n rels k with
     | inl s =>
       refine ⟨0,s.n,s.rels,s.into,s.back,fun W vr h => ⟨(simplify10_ok W vr n rels k h he hk).mono fun e w' q => ?_,(simplify19_ok W vr n rels k h he hk).mono fun e w' q => ?_⟩⟩
       all_goals
         unfold SimpPost at q
         rw [hs] at q
         exact q
     | inr u =>
       refine ⟨4,0, [], [], [],fun W vr h => ⟨(simplify10_ok W vr n rels k h he hk).mono fun e w' q => ?_,(simplify19_ok W vr n rels k h he hk).mono fun e w' q => ?_⟩⟩
       all_goals
         unfold SimpPost at q
         rw [hs] at q
         exact sip_err q
 · exact ⟨presE g rels,0, [], [], [],fun W vr h => ⟨(simplify10_bad W vr g rels steps h he).mono fun _ _ q => sip_err q,(simplify19_bad W vr g rels steps h hsm he).mono fun _ _ q => sip_err q⟩⟩
set_option maxRecDepth 100000 in
set_option maxHeartbeats 4000000 in
theorem simplifies5_any (w : World) (g : Int) (vr : Value) (rels : List (List Int)) (steps : Int) (hR : Tab w vr rels) : Calls Tryz.prog 5 #[.agg #[.int .i64 g,vr], .int .i64 steps] w fun e w' => e = .returned (.bool true) /\ Below w.heap.size w w' := by
 obtain ⟨Ar,cr,rfl⟩ := Tab.form hR
 have hb0 : Below w.heap.size w (w.alloc (.cells #[.int .i64 g, .slice Ar rels.length cr] 24)) := (Below.refl _ _).alloc (Nat.le_refl _) _
 have HP0 := Lib.hid (heap_alloc_new w (.cells #[.int .i64 g, .slice Ar rels.length cr] 24))
 have HB0 := Lib.hid hb0
 have HR0 := Lib.hid (kept_tab.below hR hb0)
 have HV := Lib.hid (vast7_any (w.alloc (.cells #[.int .i64 g, .slice Ar rels.length cr] 24)) g _ rels HR0.out)
 clear hR hb0
 go_enter Tryz.func5,Tryz.ntmps5
 go_wp2_with ((with_reducible refine wpList_sel 17 ?_); refine wpList_val rfl (r_loadAt 24 (.tmp 2) _ _ rfl rfl (load40 HP0.out)) ?_)
 refine HV.out.mono ?_
 rintro e w1 ⟨⟨b,rfl,hno⟩,hb⟩
 have HNO := Lib.hid hno
 have HB1 := Lib.hid (HB0.out.trans (hb.mono HB0.out.size))
 have HP1 := Lib.hid ((hb.block _ (Array.getElem?_eq_some_iff.1 HP0.out).1).trans HP0.out)
 have HR1 := Lib.hid (kept_tab.below HR0.out hb)
 clear hno hb HV HB0 HP0 HR0
 cases b with
 | true =>
   go_wp2_with fail
   refine (awake12_any _).mono ?_
   rintro e w2 ⟨rfl,hb⟩
   have HB2 := Lib.hid (HB1.out.trans (hb.mono HB1.out.size))
   clear hb
   go_wp2_with fail
   go_ret
   exact ⟨rfl,HB2.out⟩
 | false =>
   by_cases hst : 30 < steps /\ steps <= 1000
   · obtain ⟨h30,h1000⟩ := hst
     go_wp2_with fail
     refine (awake12_any _).mono ?_
     rintro e w2 ⟨rfl,hb⟩
     have HB2 := Lib.hid (HB1.out.trans (hb.mono HB1.out.size))
     clear hb
     go_wp2_with fail
     go_ret
     exact ⟨rfl,HB2.out⟩
   · have hst2 : (¬ 30 < steps) \/ (30 < steps /\ ¬ steps <= 1000) := by omega
     obtain ⟨hl1,hl2⟩ := HNO.out rfl
     obtain ⟨x,m,R,bb,hsh⟩ := short_both g rels (fun j => by have := hl2 j; omega)
     obtain ⟨y,m2,S,I,B,hsi⟩ := simp_both g rels steps (fun j => by have := hl2 j; omega)
     have HSH := Lib.hid hsh
     have HSI := Lib.hid hsi
     clear hl1 hl2 hsh hsi HNO hst
     unfold SHP at HSH
     unfold SIP at HSI
     rcases hst2 with h30 | ⟨h30,h1000⟩
     all_goals
       go_wp2_with ((with_reducible refine wpList_sel 29 ?_); refine wpList_val rfl (r_loadAt 24 (.tmp 2) _ _ rfl rfl (load40 HP1.out)) ?_)
       refine (HSH.out w1 _ HR1.out).1.mono ?_
       rintro e w2 ⟨⟨A2,c2,rfl,ht⟩,hb⟩
       obtain ⟨w3,hw3⟩ : ∃ w3,w3 = w2.alloc (.cells #[.int .i64 m, .slice A2 R.length c2] 24) := ⟨_,rfl⟩
       have hb3 : Below w2.heap.size w2 w3 := by rw [hw3]; exact (Below.refl _ _).alloc (Nat.le_refl _) _
       obtain ⟨q1,hq1⟩ : ∃ q1,q1 = w2.heap.size := ⟨_,rfl⟩
       have HX3 : Hid (w3.heap[q1]? = some (.cells #[.int .i64 m, .slice A2 R.length c2] 24 (0,0))) := Lib.hid (by rw [hw3,hq1]; exact heap_alloc_new w2 _)
       have hb13 := hb.trans (hb3.mono hb.size)
       have HB3 := Lib.hid (HB1.out.trans (hb13.mono HB1.out.size))
       have HP3 := Lib.hid ((hb13.block _ (Array.getElem?_eq_some_iff.1 HP1.out).1).trans HP1.out)
       have HR3 := Lib.hid (kept_tab.below HR1.out hb13)
       have HT3 := Lib.hid (kept_tab.below ht hb3)
       have HW3 := Lib.hid hw3
       have HQ1 := Lib.hid hq1
       clear ht hb hb3 hb13 hw3 hq1 HB1 HP1 HR1
       go_wp2_with ((with_reducible refine wpList_sel 35 ?_); rw [<- HW3.out, <- HQ1.out]; refine wpList_val rfl (r_loadAt 24 (.tmp 2) _ _ rfl rfl (load40 HP3.out)) ?_)
       refine (HSH.out w3 _ HR3.out).2.mono ?_
       rintro e w4 ⟨⟨A4,c4,rfl,ht⟩,hb⟩
       obtain ⟨w5,hw5⟩ : ∃ w5,w5 = w4.alloc (.cells #[.int .i64 m, .slice A4 R.length c4] 24) := ⟨_,rfl⟩
       have hb5 : Below w4.heap.size w4 w5 := by rw [hw5]; exact (Below.refl _ _).alloc (Nat.le_refl _) _
       obtain ⟨q2,hq2⟩ : ∃ q2,q2 = w4.heap.size := ⟨_,rfl⟩
       have HX5 : Hid (w5.heap[q2]? = some (.cells #[.int .i64 m, .slice A4 R.length c4] 24 (0,0))) := Lib.hid (by rw [hw5,hq2]; exact heap_alloc_new w4 _)
       have hb35 := hb.trans (hb5.mono hb.size)
       have HB5 := Lib.hid (HB3.out.trans (hb35.mono HB3.out.size))
       have HP5 := Lib.hid ((hb35.block _ (Array.getElem?_eq_some_iff.1 HP3.out).1).trans HP3.out)
       have HX35 := Lib.hid ((hb35.block _ (Array.getElem?_eq_some_iff.1 HX3.out).1).trans HX3.out)
       have HR5 := Lib.hid (kept_tab.below HR3.out hb35)
       have HC13 := Lib.hid (same26_any w5 _ _ m m R R (kept_tab.below HT3.out hb35) (kept_tab.below ht hb5))
       have HW5 := Lib.hid hw5
       have HQ2 := Lib.hid hq2
       clear ht hb hb5 hb35 hw5 hq2 HB3 HP3 HR3 HT3 HX3 HSH
       go_wp2_with (first
         | ((with_reducible refine wpList_sel 49 ?_); rw [<- HW5.out, <- HQ2.out]; refine wpList_valG (by rfl) (r_loadAt 24 (.tmp 5) _ _ rfl rfl (load40 HX35.out)) ?_)
         | ((with_reducible refine wpList_sel 50 ?_); refine wpList_valG (by rfl) (r_loadAt 24 (.tmp 8) _ _ rfl rfl (load40 HX5.out)) ?_))
       refine HC13.out.mono ?_
       rintro e w6 ⟨he6,hb⟩
       have he6' := he6.trans (ret_bool (by simp) : Ending.returned (.bool _) = .returned (.bool true))
       subst he6'
       have HB6 := Lib.hid (HB5.out.trans (hb.mono HB5.out.size))
       have HP6 := Lib.hid ((hb.block _ (Array.getElem?_eq_some_iff.1 HP5.out).1).trans HP5.out)
       have HR6 := Lib.hid (kept_tab.below HR5.out hb)
       clear hb he6 HC13 HB5 HP5 HR5 HX35 HX5 HW3 HQ1 HW5 HQ2
       go_wp2_with ((with_reducible refine wpList_sel 55 ?_); refine wpList_val rfl (r_loadAt 24 (.tmp 2) _ _ rfl rfl (load40 HP6.out)) ?_)
       refine (HSI.out w6 _ HR6.out).1.mono ?_
       rintro e w7 ⟨⟨A7,c7,C7,k7,D7,l7,rfl,ht,hi,hd⟩,hb⟩
       obtain ⟨w8,hw8⟩ : ∃ w8,w8 = w7.alloc (.cells #[.int .i64 m2, .slice A7 S.length c7] 24) := ⟨_,rfl⟩
       have hb8 : Below w7.heap.size w7 w8 := by rw [hw8]; exact (Below.refl _ _).alloc (Nat.le_refl _) _
       obtain ⟨q3,hq3⟩ : ∃ q3,q3 = w7.heap.size := ⟨_,rfl⟩
       have HX8 : Hid (w8.heap[q3]? = some (.cells #[.int .i64 m2, .slice A7 S.length c7] 24 (0,0))) := Lib.hid (by rw [hw8,hq3]; exact heap_alloc_new w7 _)
       have hb68 := hb.trans (hb8.mono hb.size)
       have HB8 := Lib.hid (HB6.out.trans (hb68.mono HB6.out.size))
       have HP8 := Lib.hid ((hb68.block _ (Array.getElem?_eq_some_iff.1 HP6.out).1).trans HP6.out)
       have HR8 := Lib.hid (kept_tab.below HR6.out hb68)
       have HT8 := Lib.hid (kept_tab.below ht hb8)
       have HI8 := Lib.hid (kept_tab.below hi hb8)
       have HD8 := Lib.hid (hd.below hb8)
       have HW8 := Lib.hid hw8
       have HQ3 := Lib.hid hq3
       clear ht hi hd hb hb8 hb68 hw8 hq3 HB6 HP6 HR6
       go_wp2_with ((with_reducible refine wpList_sel 63 ?_); rw [<- HW8.out, <- HQ3.out]; refine wpList_val rfl (r_loadAt 24 (.tmp 2) _ _ rfl rfl (load40 HP8.out)) ?_)
       refine (HSI.out w8 _ HR8.out).2.mono ?_
       rintro e w9 ⟨⟨A9,c9,C9,k9,D9,l9,rfl,ht,hi,hd⟩,hb⟩
       obtain ⟨w10,hw10⟩ : ∃ w10,w10 = w9.alloc (.cells #[.int .i64 m2, .slice A9 S.length c9] 24) := ⟨_,rfl⟩
       have hb10 : Below w9.heap.size w9 w10 := by rw [hw10]; exact (Below.refl _ _).alloc (Nat.le_refl _) _
       obtain ⟨q4,hq4⟩ : ∃ q4,q4 = w9.heap.size := ⟨_,rfl⟩
       have HX10 : Hid (w10.heap[q4]? = some (.cells #[.int .i64 m2, .slice A9 S.length c9] 24 (0,0))) := Lib.hid (by rw [hw10,hq4]; exact heap_alloc_new w9 _)
       have hb810 := hb.trans (hb10.mono hb.size)
       have HB10 := Lib.hid (HB8.out.trans (hb810.mono HB8.out.size))
       have HX810 := Lib.hid ((hb810.block _ (Array.getElem?_eq_some_iff.1 HX8.out).1).trans HX8.out)
       have HC13 := Lib.hid (same26_any w10 _ _ m2 m2 S S (kept_tab.below HT8.out hb810) (kept_tab.below ht hb10))
       have HI810 := Lib.hid (kept_tab.below HI8.out hb810)
       have HI10 := Lib.hid (kept_tab.below hi hb10)
       have HD810 := Lib.hid (HD8.out.below hb810)
       have HD10 := Lib.hid (hd.below hb10)
       have HW10 := Lib.hid hw10
       have HQ4 := Lib.hid hq4
       clear ht hi hd hb hb10 hb810 hw10 hq4 HB8 HP8 HR8 HT8 HI8 HD8 HX8 HSI
       go_wp2_with (first
         | ((with_reducible refine wpList_sel 74 ?_); rw [<- HW10.out, <- HQ4.out]; refine wpList_valG (by rfl) (r_loadAt 24 (.tmp 11) _ _ rfl rfl (load40 HX810.out)) ?_)
         | ((with_reducible refine wpList_sel 75 ?_); refine wpList_valG (by rfl) (r_loadAt 24 (.tmp 14) _ _ rfl rfl (load40 HX10.out)) ?_))
       refine HC13.out.mono ?_
       rintro e w11 ⟨he11,hb⟩
       have he11' := he11.trans (ret_bool (by simp) : Ending.returned (.bool _) = .returned (.bool true))
       subst he11'
       have HB11 := Lib.hid (HB10.out.trans (hb.mono HB10.out.size))
       have HC14 := Lib.hid (equal8_any w11 _ _ I I (kept_tab.below HI810.out hb) (kept_tab.below HI10.out hb))
       have HD811 := Lib.hid (HD810.out.below hb)
       have HD11 := Lib.hid (HD10.out.below hb)
       clear hb he11 HC13 HB10 HI810 HI10 HD810 HD10 HX810 HX10
       go_wp2_with fail
       refine HC14.out.mono ?_
       rintro e w12 ⟨he12,hb⟩
       have he12' := he12.trans (ret_bool (by simp) : Ending.returned (.bool _) = .returned (.bool true))
       subst he12'
       have HB12 := Lib.hid (HB11.out.trans (hb.mono HB11.out.size))
       have HC20 := Lib.hid (numbers11_any w12 _ _ B B (HD811.out.below hb) (HD11.out.below hb))
       clear hb he12 HC14 HB11 HD811 HD11
       go_wp2_with fail
       refine HC20.out.mono ?_
       rintro e w13 ⟨he13,hb⟩
       have he13' := he13.trans (ret_bool (by simp) : Ending.returned (.bool _) = .returned (.bool true))
       subst he13'
       have HB13 := Lib.hid (HB12.out.trans (hb.mono HB12.out.size))
       clear hb he13 HC20 HB12
       go_wp2_with fail
       refine (awake12_any _).mono ?_
       rintro e w14 ⟨rfl,hb⟩
       have HB14 := Lib.hid (HB13.out.trans (hb.mono HB13.out.size))
       clear hb
       go_wp2_with fail
       go_ret
       exact ⟨rfl,HB14.out⟩
end Go.Proofs
