/- The walk of FelschKnown; Representatives lead to their cosets, plainly; The presentations of the statements on Felsch's strategy; which tables the three strategies have; The walk of FelschSame; Arguments opened: lists of numbers, tables, presentations; Closed facts of the program (A); Closed facts of the program (B); Closed facts of the program (C); Closed facts of the program (D); The closed facts of a statement, one by one. -/
import Derived.Test.YtmpnengjboabcaaFsCS27
import Derived.Test.YtmpnengjboabcaaFsCS31
import Derived.Test.YtmpnengjboabcaaFsCS19
import Derived.Test.YtmpnengjboabcaaFsCS13
import Derived.Test.YtmpnengjboabcaaFsCS1
import Derived.Test.YtmpnengjboabcaaFsCS30
import Derived.Test.YtmpnengjboabcaaFsCS20
import Derived.Test.YtmpnengjboabcaaFsCS3
import Derived.ProofKit
import Derived.Deep.Slices
import Derived.Deep.Strs
import Derived.Test.YtmpnengjboabcaaRows
import Derived.Test.YtmpnengjboabcaaChecked
import Derived.OpenShut
import Derived.JoinedOf
namespace Go.Proofs
open Go.RowKit Go.Shelf Go.Proofs.Ct Go.Maps
set_option maxRecDepth 100000 in
theorem jlg (w:World):Calls Try.prog 89 #[] w (jdmb 2 jbp w):=by
 have hg:∀ i o, [Obj.cells jvb 40,.cells (ints [1,1]).toArray 3,.cells (ints [2,2,2]).toArray 3,.cells (ints [1,2,1,2]).toArray 3,.cells #[.slice (some ⟨w.heap.size + 1,0,none⟩) 2 2,.slice (some ⟨w.heap.size + 1 + 1,0,none⟩) 3 3,.slice (some ⟨w.heap.size + 1 + 1 + 1,0,none⟩) 4 4] 25][i]?=some o ->
     (((((w.alloc (.cells jvb 40)).alloc (.cells (ints [1,1]).toArray 3)).alloc (.cells (ints [2,2,2]).toArray 3)).alloc (.cells (ints [1,2,1,2]).toArray 3)).alloc (.cells #[.slice (some ⟨w.heap.size + 1,0,none⟩) 2 2,.slice (some ⟨w.heap.size + 1 + 1,0,none⟩) 3 3,.slice (some ⟨w.heap.size + 1 + 1 + 1,0,none⟩) 4 4] 25)).heap[w.heap.size + i]?=some o:=fun i o h=>jfk _ w i o h
 have hb:Below w.heap.size w (((((w.alloc (.cells jvb 40)).alloc (.cells (ints [1,1]).toArray 3)).alloc (.cells (ints [2,2,2]).toArray 3)).alloc (.cells (ints [1,2,1,2]).toArray 3)).alloc (.cells #[.slice (some ⟨w.heap.size + 1,0,none⟩) 2 2,.slice (some ⟨w.heap.size + 1 + 1,0,none⟩) 3 3,.slice (some ⟨w.heap.size + 1 + 1 + 1,0,none⟩) 4 4] 25)) :=
   jnj [Obj.cells jvb 40,.cells (ints [1,1]).toArray 3,.cells (ints [2,2,2]).toArray 3,.cells (ints [1,2,1,2]).toArray 3,.cells #[.slice (some ⟨w.heap.size + 1,0,none⟩) 2 2,.slice (some ⟨w.heap.size + 1 + 1,0,none⟩) 3 3,.slice (some ⟨w.heap.size + 1 + 1 + 1,0,none⟩) 4 4] 25] w w.heap.size (Nat.le_refl _)
 have HG:=Lib.hid hg
 have HB:=Lib.hid hb
 have HX:=Lib.hid (hg 0 _ rfl)
 clear hg hb
 go_enter Try.func89,Try.ntmps89
 go_wp2_with (first
   | ((with_reducible refine jea 0 ?_); refine jca rfl (jbc rfl) ?_)
   | ((with_reducible refine jea 5 ?_); refine jca rfl (jzb _ (.tmp 4) 2 _ _ _ rfl rfl rfl) ?_; refine wpList_skip rfl (jac (.tmp 0) (.tmp 5) rfl w.heap.size jvb _ rfl rfl HX.out rfl rfl (jmi _ _ _ _)) ?_))
 try simp only [Exit.inBlock,Exit.then]
 refine bodyPost_ret (jom (p:=0) rfl _ _ w.heap.size _ rfl (setRow_heap _ _ _ _ _ _ HX.out) rfl) rfl ⟨⟨_,_,rfl, ?_⟩,below_setRow HB.out (Nat.le_refl _) _⟩
 refine jdt ((setRow_other _ _ _ _ (by omega)).trans (HG.out 4 _ rfl)) rfl rfl (by simp) fun i hi => ?_
 have hi3:i=0\/i=1\/i=2:=by simp [jbp] at hi; omega
 rcases hi3 with rfl | rfl | rfl
 · exact jko ((setRow_other _ _ _ _ (by omega)).trans (HG.out 1 _ rfl)) (jia (by decide)) rfl (by omega)
 · exact jko ((setRow_other _ _ _ _ (by omega)).trans (HG.out 2 _ rfl)) (jia (by decide)) rfl (by omega)
 · exact jko ((setRow_other _ _ _ _ (by omega)).trans (HG.out 3 _ rfl)) (jia (by decide)) rfl (by omega)
theorem jifb (g:Int) (rels sub:List W) (limit:Int) (T:Tb) (a b c:Int) (h:jfd g rels sub limit=(T,(a,b),c)) (h1:(sub.all fun x=>decide (x.length<=100000))=true) (h2:sub.length<=1000000) (h3:(rels.all fun x=>decide (x.length<=100))=true) (hl:limit<=1000) (W:World) (vr vs:Value) (hr:Tab W vr rels) (hs:Tab W vs sub) :
   Calls Try.prog 85 #[.agg #[.int .i64 g,vr],vs,.int .i64 limit] W fun e w'=>(∃ u,e=.returned (.tuple #[u,.agg #[.int .i64 a,.int .i64 b,.int .i64 0],.int .i64 c])/\Tab w' u T)/\Below W.heap.size W w' :=
 (felsch85_B W vr vs g rels sub limit hr hs (jgl h3) (jgl h1) h2 (.inl hl)).mono fun e w' (⟨⟨u,h5,h6⟩,h7⟩ : jkd g rels sub limit W e w')=>by
   rw [h] at h5 h6
   exact ⟨⟨u,h5,h6.at_⟩,h7⟩
theorem jkjb (g:Int) (rels sub:List W) (limit:Int) (T:Tb) (a b l c:Int) (h:jjh g rels sub limit=(T,(a,b,l),c)) (h1:(sub.all fun x=>decide (x.length<=100000))=true) (h2:sub.length<=1000000) (h3:(rels.all fun x=>decide (x.length<=100000))=true) (hl:limit<=1000) (W:World) (vr vs:Value) (hr:Tab W vr rels) (hs:Tab W vs sub) :
   Calls Try.prog 87 #[.agg #[.int .i64 g,vr],vs,.int .i64 limit] W fun e w'=>(∃ u,e=.returned (.tuple #[u,.agg #[.int .i64 a,.int .i64 b,.int .i64 l],.int .i64 c])/\Tab w' u T)/\Below W.heap.size W w' :=
 (look87_B W vr vs g rels sub limit hr hs (jgl h3) (jgl h1) h2 (.inl hl)).mono fun e w' (⟨⟨u,h5,h6⟩,h7⟩ : jlf g rels sub limit W e w')=>by
   rw [h] at h5 h6
   exact ⟨⟨u,h5,h6.at_⟩,h7⟩
theorem jicb (g:Int) (rels:List W) (x:Int) (T:List W) (c:Int) (h:jlh g rels x=(T,c)) (h3:(rels.all fun x=>decide (x.length<=100))=true) (hx1 : -9223372036854775808<=x) (hx2:x<=9223372036854775807) (W:World) (vr:Value) (hr:Tab W vr rels) :
   Calls Try.prog 80 #[.agg #[.int .i64 g,vr],.int .i64 x] W fun e w'=>(∃ u,e=.returned (.tuple #[u,.int .i64 c])/\Tab w' u T)/\Below W.heap.size W w' :=
 (jcx W vr rels g x hr hx1 hx2 (jgl h3)).mono fun e w' (⟨⟨A,k,h5,h6⟩,h7⟩ : jpc g rels x W e w')=>by
   rw [h] at h5 h6
   exact ⟨⟨_,h5,h6.at_⟩,h7⟩
set_option maxRecDepth 100000 in
set_option maxHeartbeats 4000000 in
theorem jhf (w:World):Calls Try.prog 19 #[] w fun e w'=>e=.returned (.bool true)/\Below w.heap.size w w':=by
 have HWa:=Lib.hid (jicb 2 jbp 1 [[1,1], [1,2,1,2]] 0 (by decide +kernel) (by decide) (by decide) (by decide))
 have HWb:=Lib.hid (jicb 2 jbp (-2) [[-2,-2,-2], [-2,-1,-2,-1]] 0 (by decide +kernel) (by decide) (by decide) (by decide))
 have HWc:=Lib.hid (jicb 2 jbp 3 [] 2 (by decide +kernel) (by decide) (by decide) (by decide))
 have HF1:=Lib.hid (jifb 2 jbp [[1]] 100 [[0,0,1,2], [2,2,2,0], [1,1,0,1]] 3 3 0 (by decide +kernel) (by decide) (by decide) (by decide) (by decide))
 have HK1:=Lib.hid (jkjb 2 jbp [[1]] 100 [[0,0,1,2], [2,2,2,0], [1,1,0,1]] 3 3 0 0 (by decide +kernel) (by decide) (by decide) (by decide) (by decide))
 have HF2:=Lib.hid (jifb 1 [[1,1,1]] [] 2 [] 0 0 12 (by decide +kernel) (by decide) (by decide) (by decide) (by decide))
 have HK2:=Lib.hid (jkjb 1 [] [] 3 [] 0 0 0 12 (by decide +kernel) (by decide) (by decide) (by decide) (by decide))
 have HK3:=Lib.hid (jkjb 1 [[1,1,1], [1,1]] [] 3 [[0,0]] 3 3 0 0 (by decide +kernel) (by decide) (by decide) (by decide) (by decide))
 have HPL:Hid (∀ (W:World) (v:Value) (l:List (List Int)),l.length<=1000000->Tab W v l->Calls Try.prog 82 #[v] W fun e w'=>(∃ u,e=.returned u/\Tab w' u l)/\Below W.heap.size W w'):=Lib.hid fun W v l hl h=>(jux W v l h hl).mono fun e w' ⟨⟨A,c,h1,h2⟩,h3⟩=>⟨⟨_,h1,h2⟩,h3⟩
 have HSM:Hid (∀ (W:World) (a b:Value) (T:Tb),Tab W a T->Tab W b T->Calls Try.prog 42 #[a,b] W fun e w''=>e=.returned (.bool true)/\Below W.heap.size W w''):=Lib.hid fun W a b T h1 h2=>(jrj W a b _ _ h1 h2).mono fun e w'' ⟨h,q,h'⟩=>⟨h.trans (jsa (decide_eq_true rfl)),h' ▸ below_drewN (Below.refl _ _) q⟩
 go_enter Try.func19,Try.ntmps19
 have HB0:=Lib.hid (Below.refl w.heap.size w)
 have ht:=lit3 (w) [0,0,1,2] [2,2,2,0] [1,1,0,1] (jia (by decide)) (jia (by decide)) (jia (by decide)) rfl rfl rfl (by decide) (e:=24)
 have hx:=jibb (w) [0,0,1,2] [2,2,2,0] [1,1,0,1] 4 4 4 (e:=24)
 have HBa:=Lib.hid (bl3 HB0.out hx)
 have HTa:=Lib.hid ht
 clear ht hx
 go_wp2_with fail
 refine (jlg _).mono ?_
 rintro e v1 ⟨⟨A_p1,c_p1,rfl,ht⟩,hb⟩
 have HL1:=Lib.hid (jda.below HTa.out hb)
 clear HTa
 have HB_v1:=Lib.hid (bl3 HBa.out hb)
 clear HBa
 clear hb
 have HP1:=Lib.hid ht
 clear ht
 go_wp2_with fail
 refine (HWa.out _ _ HP1.out).mono ?_
 rintro e v2 ⟨⟨u,rfl,ht⟩,hb⟩
 clear HP1
 have HL2:=Lib.hid (jda.below HL1.out hb)
 clear HL1
 have HB_v2:=Lib.hid (bl3 HB_v1.out hb)
 clear HB_v1
 obtain ⟨A_v2,c_v2,rfl⟩:=Tab.form ht
 have HT_v2:=Lib.hid ht
 clear ht
 clear hb
 go_wp2_with fail
 refine (jlg _).mono ?_
 rintro e v3 ⟨⟨A_p3,c_p3,rfl,ht⟩,hb⟩
 have HL3:=Lib.hid (jda.below HL2.out hb)
 clear HL2
 have HL4:=Lib.hid (jda.below HT_v2.out hb)
 clear HT_v2
 have HB_v3:=Lib.hid (bl3 HB_v2.out hb)
 clear HB_v2
 clear hb
 have HP3:=Lib.hid ht
 clear ht
 go_wp2_with fail
 refine (HWb.out _ _ HP3.out).mono ?_
 rintro e v4 ⟨⟨u,rfl,ht⟩,hb⟩
 clear HP3
 have HL5:=Lib.hid (jda.below HL3.out hb)
 clear HL3
 have HL6:=Lib.hid (jda.below HL4.out hb)
 clear HL4
 have HB_v4:=Lib.hid (bl3 HB_v3.out hb)
 clear HB_v3
 obtain ⟨A_v4,c_v4,rfl⟩:=Tab.form ht
 have HT_v4:=Lib.hid ht
 clear ht
 clear hb
 go_wp2_with fail
 refine (jlg _).mono ?_
 rintro e v5 ⟨⟨A_p5,c_p5,rfl,ht⟩,hb⟩
 have HL7:=Lib.hid (jda.below HL5.out hb)
 clear HL5
 have HL8:=Lib.hid (jda.below HL6.out hb)
 clear HL6
 have HL9:=Lib.hid (jda.below HT_v4.out hb)
 clear HT_v4
 have HB_v5:=Lib.hid (bl3 HB_v4.out hb)
 clear HB_v4
 clear hb
 have HP5:=Lib.hid ht
 clear ht
 go_wp2_with fail
 refine (HWc.out _ _ HP5.out).mono ?_
 rintro e v6 ⟨⟨u,rfl,ht⟩,hb⟩
 clear HP5
 have HL10:=Lib.hid (jda.below HL7.out hb)
 clear HL7
 have HL11:=Lib.hid (jda.below HL8.out hb)
 clear HL8
 have HL12:=Lib.hid (jda.below HL9.out hb)
 clear HL9
 have HB_v6:=Lib.hid (bl3 HB_v5.out hb)
 clear HB_v5
 obtain ⟨A_v6,c_v6,rfl⟩:=Tab.form ht
 have HT_v6:=Lib.hid ht
 clear ht
 clear hb
 go_wp2_with fail
 refine (HPL.out _ _ _ (by decide) HL11.out).mono ?_
 rintro e v7 ⟨⟨u,rfl,ht⟩,hb⟩
 clear HL11
 have HL13:=Lib.hid (jda.below HL10.out hb)
 clear HL10
 have HL14:=Lib.hid (jda.below HL12.out hb)
 clear HL12
 have HL15:=Lib.hid (jda.below HT_v6.out hb)
 clear HT_v6
 have HB_v7:=Lib.hid (bl3 HB_v6.out hb)
 clear HB_v6
 obtain ⟨A_v7,c_v7,rfl⟩:=Tab.form ht
 have HT_v7:=Lib.hid ht
 clear ht
 clear hb
 have ht:=lit2 (v7) [1,1] [1,2,1,2] (jia (by decide)) (jia (by decide)) rfl rfl (by decide) (e:=24)
 have hx:=jtm (v7) [1,1] [1,2,1,2] 2 4 (e:=24)
 have HL16:=Lib.hid (jda.below HL13.out hx)
 clear HL13
 have HL17:=Lib.hid (jda.below HL14.out hx)
 clear HL14
 have HL18:=Lib.hid (jda.below HL15.out hx)
 clear HL15
 have HL19:=Lib.hid (jda.below HT_v7.out hx)
 clear HT_v7
 have HBb:=Lib.hid (bl3 HB_v7.out hx)
 have HTb:=Lib.hid ht
 clear ht hx
 clear HB_v7
 go_wp2_with fail
 refine (HSM.out _ _ _ _ HL19.out HTb.out).mono ?_
 rintro e v8 ⟨rfl,hb⟩
 clear HL19
 clear HTb
 have HL20:=Lib.hid (jda.below HL16.out hb)
 clear HL16
 have HL21:=Lib.hid (jda.below HL17.out hb)
 clear HL17
 have HL22:=Lib.hid (jda.below HL18.out hb)
 clear HL18
 have HB_v8:=Lib.hid (bl3 HBb.out hb)
 clear HBb
 clear hb
 go_wp2_with fail
 refine (HPL.out _ _ _ (by decide) HL21.out).mono ?_
 rintro e v9 ⟨⟨u,rfl,ht⟩,hb⟩
 clear HL21
 have HL23:=Lib.hid (jda.below HL20.out hb)
 clear HL20
 have HL24:=Lib.hid (jda.below HL22.out hb)
 clear HL22
 have HB_v9:=Lib.hid (bl3 HB_v8.out hb)
 clear HB_v8
 obtain ⟨A_v9,c_v9,rfl⟩:=Tab.form ht
 have HT_v9:=Lib.hid ht
 clear ht
 clear hb
 have ht:=lit2 (v9) [-2,-2,-2] [-2,-1,-2,-1] (jia (by decide)) (jia (by decide)) rfl rfl (by decide) (e:=24)
 have hx:=jtm (v9) [-2,-2,-2] [-2,-1,-2,-1] 3 4 (e:=24)
 have HL25:=Lib.hid (jda.below HL23.out hx)
 clear HL23
 have HL26:=Lib.hid (jda.below HL24.out hx)
 clear HL24
 have HL27:=Lib.hid (jda.below HT_v9.out hx)
 clear HT_v9
 have HBc:=Lib.hid (bl3 HB_v9.out hx)
 have HTc:=Lib.hid ht
 clear ht hx
 clear HB_v9
 go_wp2_with fail
 refine (HSM.out _ _ _ _ HL27.out HTc.out).mono ?_
 rintro e v10 ⟨rfl,hb⟩
 clear HL27
 clear HTc
 have HL28:=Lib.hid (jda.below HL25.out hb)
 clear HL25
 have HL29:=Lib.hid (jda.below HL26.out hb)
 clear HL26
 have HB_v10:=Lib.hid (bl3 HBc.out hb)
 clear HBc
 clear hb
 go_wp2_with fail
 refine (jlg _).mono ?_
 rintro e v11 ⟨⟨A_p11,c_p11,rfl,ht⟩,hb⟩
 have HL30:=Lib.hid (jda.below HL28.out hb)
 clear HL28
 have HL31:=Lib.hid (jda.below HL29.out hb)
 clear HL29
 have HB_v11:=Lib.hid (bl3 HB_v10.out hb)
 clear HB_v10
 clear hb
 have HP11:=Lib.hid ht
 clear ht
 have ht:=lit1 (v11) [1] (jia (by decide)) rfl (by decide) (e:=25)
 have hx:=jxj (v11) [1] 1 (e:=25)
 have HL32:=Lib.hid (jda.below HL30.out hx)
 clear HL30
 have HL33:=Lib.hid (jda.below HL31.out hx)
 clear HL31
 have HL34:=Lib.hid (jda.below HP11.out hx)
 clear HP11
 have HBd:=Lib.hid (bl3 HB_v11.out hx)
 have HTd:=Lib.hid ht
 clear ht hx
 clear HB_v11
 go_wp2_with fail
 refine (HF1.out _ _ _ HL34.out HTd.out).mono ?_
 rintro e v12 ⟨⟨u,rfl,ht⟩,hb⟩
 clear HL34
 clear HTd
 have HL35:=Lib.hid (jda.below HL32.out hb)
 clear HL32
 have HL36:=Lib.hid (jda.below HL33.out hb)
 clear HL33
 have HB_v12:=Lib.hid (bl3 HBd.out hb)
 clear HBd
 obtain ⟨A_v12,c_v12,rfl⟩:=Tab.form ht
 have HT_v12:=Lib.hid ht
 clear ht
 clear hb
 have hb:Below v12.heap.size v12 (v12.alloc (.cells #[.int .i64 3,.int .i64 3,.int .i64 0] 49)):=(Below.refl _ _).alloc (Nat.le_refl _) _
 have HL37:=Lib.hid (jda.below HL35.out hb)
 clear HL35
 have HL38:=Lib.hid (jda.below HL36.out hb)
 clear HL36
 have HL39:=Lib.hid (jda.below HT_v12.out hb)
 clear HT_v12
 have HX_v12:=Lib.hid (bl3 HB_v12.out hb)
 clear hb HB_v12
 go_wp2_with fail
 refine (jlg _).mono ?_
 rintro e v13 ⟨⟨A_p13,c_p13,rfl,ht⟩,hb⟩
 have HL40:=Lib.hid (jda.below HL37.out hb)
 clear HL37
 have HL41:=Lib.hid (jda.below HL38.out hb)
 clear HL38
 have HL42:=Lib.hid (jda.below HL39.out hb)
 clear HL39
 have HB_v13:=Lib.hid (bl3 HX_v12.out hb)
 clear HX_v12
 clear hb
 have HP13:=Lib.hid ht
 clear ht
 have ht:=lit1 (v13) [1] (jia (by decide)) rfl (by decide) (e:=25)
 have hx:=jxj (v13) [1] 1 (e:=25)
 have HL43:=Lib.hid (jda.below HL40.out hx)
 clear HL40
 have HL44:=Lib.hid (jda.below HL41.out hx)
 clear HL41
 have HL45:=Lib.hid (jda.below HL42.out hx)
 clear HL42
 have HL46:=Lib.hid (jda.below HP13.out hx)
 clear HP13
 have HBe:=Lib.hid (bl3 HB_v13.out hx)
 have HTe:=Lib.hid ht
 clear ht hx
 clear HB_v13
 go_wp2_with fail
 refine (HK1.out _ _ _ HL46.out HTe.out).mono ?_
 rintro e v14 ⟨⟨u,rfl,ht⟩,hb⟩
 clear HL46
 clear HTe
 have HL47:=Lib.hid (jda.below HL43.out hb)
 clear HL43
 have HL48:=Lib.hid (jda.below HL44.out hb)
 clear HL44
 have HL49:=Lib.hid (jda.below HL45.out hb)
 clear HL45
 have HB_v14:=Lib.hid (bl3 HBe.out hb)
 clear HBe
 obtain ⟨A_v14,c_v14,rfl⟩:=Tab.form ht
 have HT_v14:=Lib.hid ht
 clear ht
 clear hb
 have hb:Below v14.heap.size v14 (v14.alloc (.cells #[.int .i64 3,.int .i64 3,.int .i64 0] 49)):=(Below.refl _ _).alloc (Nat.le_refl _) _
 have HL50:=Lib.hid (jda.below HL47.out hb)
 clear HL47
 have HL51:=Lib.hid (jda.below HL48.out hb)
 clear HL48
 have HL52:=Lib.hid (jda.below HL49.out hb)
 clear HL49
 have HL53:=Lib.hid (jda.below HT_v14.out hb)
 clear HT_v14
 have HX_v14:=Lib.hid (bl3 HB_v14.out hb)
 clear hb HB_v14
 go_wp2_with fail
 refine (HSM.out _ _ _ _ HL52.out HL50.out).mono ?_
 rintro e v15 ⟨rfl,hb⟩
 clear HL52
 have HL54:=Lib.hid (jda.below HL50.out hb)
 clear HL50
 have HL55:=Lib.hid (jda.below HL51.out hb)
 clear HL51
 have HL56:=Lib.hid (jda.below HL53.out hb)
 clear HL53
 have HB_v15:=Lib.hid (bl3 HX_v14.out hb)
 clear HX_v14
 clear hb
 go_wp2_with fail
 refine (HSM.out _ _ _ _ HL56.out HL54.out).mono ?_
 rintro e v16 ⟨rfl,hb⟩
 clear HL56
 clear HL54
 have HL57:=Lib.hid (jda.below HL55.out hb)
 clear HL55
 have HB_v16:=Lib.hid (bl3 HB_v15.out hb)
 clear HB_v15
 clear hb
 have ht:=lit1 (v16) [1,1,1] (jia (by decide)) rfl (by decide) (e:=25)
 have hx:=jxj (v16) [1,1,1] 3 (e:=25)
 have HL58:=Lib.hid (jda.below HL57.out hx)
 clear HL57
 have HBf:=Lib.hid (bl3 HB_v16.out hx)
 have HTf:=Lib.hid ht
 clear ht hx
 clear HB_v16
 go_wp2_with fail
 refine (HF2.out _ _ _ HTf.out jsh).mono ?_
 rintro e v17 ⟨⟨u,rfl,ht⟩,hb⟩
 clear HTf
 have HL59:=Lib.hid (jda.below HL58.out hb)
 clear HL58
 have HB_v17:=Lib.hid (bl3 HBf.out hb)
 clear HBf
 obtain ⟨A_v17,c_v17,rfl⟩:=Tab.form ht
 have HT_v17:=Lib.hid ht
 clear ht
 clear hb
 go_wp2_with fail
 refine (HK2.out _ _ _ jsh jsh).mono ?_
 rintro e v18 ⟨⟨u,rfl,ht⟩,hb⟩
 have HL60:=Lib.hid (jda.below HL59.out hb)
 clear HL59
 have HL61:=Lib.hid (jda.below HT_v17.out hb)
 clear HT_v17
 have HB_v18:=Lib.hid (bl3 HB_v17.out hb)
 clear HB_v17
 obtain ⟨A_v18,c_v18,rfl⟩:=Tab.form ht
 have HT_v18:=Lib.hid ht
 clear ht
 clear hb
 have ht:=lit2 (v18) [1,1,1] [1,1] (jia (by decide)) (jia (by decide)) rfl rfl (by decide) (e:=25)
 have hx:=jtm (v18) [1,1,1] [1,1] 3 2 (e:=25)
 have HL62:=Lib.hid (jda.below HL60.out hx)
 clear HL60
 have HL63:=Lib.hid (jda.below HL61.out hx)
 clear HL61
 have HL64:=Lib.hid (jda.below HT_v18.out hx)
 clear HT_v18
 have HBg:=Lib.hid (bl3 HB_v18.out hx)
 have HTg:=Lib.hid ht
 clear ht hx
 clear HB_v18
 go_wp2_with fail
 refine (HK3.out _ _ _ HTg.out jsh).mono ?_
 rintro e v19 ⟨⟨u,rfl,ht⟩,hb⟩
 clear HTg
 have HL65:=Lib.hid (jda.below HL62.out hb)
 clear HL62
 have HL66:=Lib.hid (jda.below HL63.out hb)
 clear HL63
 have HL67:=Lib.hid (jda.below HL64.out hb)
 clear HL64
 have HB_v19:=Lib.hid (bl3 HBg.out hb)
 clear HBg
 obtain ⟨A_v19,c_v19,rfl⟩:=Tab.form ht
 have HT_v19:=Lib.hid ht
 clear ht
 clear hb
 go_wp2_with fail
 refine (juy _).mono ?_
 rintro e v20 ⟨rfl,hb⟩
 have HL68:=Lib.hid (jda.below HL65.out hb)
 clear HL65
 have HL69:=Lib.hid (jda.below HL66.out hb)
 clear HL66
 have HL70:=Lib.hid (jda.below HL67.out hb)
 clear HL67
 have HL71:=Lib.hid (jda.below HT_v19.out hb)
 clear HT_v19
 have HB_v20:=Lib.hid (bl3 HB_v19.out hb)
 clear HB_v19
 clear hb
 have ht:=lit1 (v20) [0,0] (jia (by decide)) rfl (by decide) (e:=24)
 have hx:=jxj (v20) [0,0] 2 (e:=24)
 have HL72:=Lib.hid (jda.below HL68.out hx)
 clear HL68
 have HL73:=Lib.hid (jda.below HL69.out hx)
 clear HL69
 have HL74:=Lib.hid (jda.below HL70.out hx)
 clear HL70
 have HL75:=Lib.hid (jda.below HL71.out hx)
 clear HL71
 have HBh:=Lib.hid (bl3 HB_v20.out hx)
 have HTh:=Lib.hid ht
 clear ht hx
 clear HB_v20
 go_wp2_with fail
 refine (HSM.out _ _ _ _ HL75.out HTh.out).mono ?_
 rintro e v21 ⟨rfl,hb⟩
 clear HL75
 clear HTh
 have HL76:=Lib.hid (jda.below HL72.out hb)
 clear HL72
 have HL77:=Lib.hid (jda.below HL73.out hb)
 clear HL73
 have HL78:=Lib.hid (jda.below HL74.out hb)
 clear HL74
 have HB_v21:=Lib.hid (bl3 HBh.out hb)
 clear HBh
 clear hb
 go_wp2_with fail
 go_ret
 exact ⟨(by first | rfl | trivial),HB_v21.out⟩
end Go.Proofs
namespace Go.Proofs.Ct
def RW (t:Tb) (out:List W):Prop:=∀ j,j < out.length->Way t 0 (out.getD j []) j
section
variable {g:Nat} {t:Tb}
end
end Go.Proofs.Ct
namespace Go.Proofs
open Go.RowKit Go.Shelf Go.Proofs.Ct Go.Maps
set_option maxRecDepth 100000 in
set_option maxHeartbeats 1000000 in
theorem jso (w:World) (v:Value) (l:List Int) (g:Nat) (h:jma w v l) (hg:1<=g/\g<=400) (hl:l.length<=100000):Calls Try.prog 90 #[v,.int .i64 (g:Int)] w (jqf (jnc g 6 l) w):=by
 have HC:Hid (Calls Try.prog 135 #[v,.int .i64 (g:Int),.int .i64 12] w (jfm (jqk g 12 l) w)):=Lib.hid (jer w v l g 12 h hg (by omega) hl)
 have hwl:=jhk g 12 l.length l
 have hwl2:(jqk g 12 l).length<=100000:=Nat.le_trans hwl hl
 obtain ⟨A,c,rfl,h1,h2,-⟩:=h.open_
 clear h hwl
 unfold jqf jnc
 unfold jfm at HC
 generalize jqk g 12 l=X at *
 have hxl:(X.length:Int)<=100000:=by omega
 have hx0:(0:Int)<=(X.length:Int):=Int.natCast_nonneg _
 obtain ⟨n,hn⟩ : ∃ n,n=min X.length 6:=⟨_,rfl⟩
 have hnx:n<=X.length:=by omega
 have HN:Hid ((n:Int)=min (X.length:Int) 6):=Lib.hid (by omega)
 have HT:Hid ((X.take 6)=X.take n/\(X.take n).length=n):=Lib.hid (by
   rw [List.length_take]
   refine ⟨?_,by omega⟩
   rcases Nat.lt_or_ge X.length 6 with h | h
   · rw [List.take_of_length_le (by omega),List.take_of_length_le (by omega)]
   · rw [show n=6 by omega])
 rw [HT.out.1]
 clear hn
 go_enter Try.func90,Try.ntmps90
 go_wp2_with (first
   | (go_at_call 135; (refine HC.out.mono ?_); rintro e w2 ⟨⟨A5,c5,rfl,ht⟩,hb⟩
      obtain ⟨A6,hs6,ht6⟩:=jjx ht hnx
      obtain ⟨A7,c7,e7,hc7,-,-⟩:=LAt.open_ ht.at_
      obtain ⟨rfl,-,rfl⟩:=Value.slice.inj e7
      have HE:Hid ((∃ A c,Ending.returned (.slice A6 n c5)=.returned (.slice A (X.take n).length c)/\TabB w.heap.size w2 (.slice A (X.take n).length c) (X.take n))/\Below w.heap.size w w2):=Lib.hid ⟨⟨A6,c5,by rw [HT.out.2],by rw [HT.out.2]; exact ht6⟩,hb⟩
      clear ht hb ht6 e7)
   | ((with_reducible refine jea 12 ?_); refine jca rfl (jfib (.tmp 11) (.const (.int .i64 6)) _ _ (n:Int) rfl rfl rfl (by have:=HN.out; omega)) ?_)
   | ((with_reducible refine jea 13 ?_); refine jca rfl (jjv (.tmp 9) (.tmp 12) _ X.length c5 n rfl rfl rfl (by omega)) ?_; rw [hs6]))
 go_ret
 exact HE.out
set_option maxRecDepth 100000 in
set_option maxHeartbeats 1000000 in
theorem jgy (w:World) (which:Int) (v:Value) (l:List Int) (h:jma w v l) (hl:l.length<=100000) (hw : -9223372036854775808<=which/\which<=9223372036854775807):Calls Try.prog 83 #[.int .i64 which,v] w (jzw (jve 6 which l) w):=by
 have h1:which.tmod 2 < 2:=Int.tmod_lt_of_pos _ (by omega)
 have h2 : -2 < which.tmod 2:=Int.lt_tmod_of_pos _ (by omega)
 have hd:which.tdiv 2 * 2 + which.tmod 2=which:=Int.tdiv_mul_add_tmod _ _
 obtain ⟨hw1,hw2⟩:=hw
 have hd1 : -9223372036854775808<=which.tdiv 2:=by omega
 have hd2:which.tdiv 2<=9223372036854775807:=by omega
 have HI:=Lib.hid h
 obtain ⟨A,c,rfl,hc1,hc2,-⟩:=h.open_
 have hb0:Below w.heap.size w (w.alloc (.cells jvb 40)):=(Below.refl _ _).alloc (Nat.le_refl _) _
 have HB0:=Lib.hid hb0
 have HG0:=Lib.hid (heap_alloc_new w (.cells jvb 40))
 have hsz:(w.alloc (.cells jvb 40)).heap.size=w.heap.size + 1:=World.size_alloc _ _
 have HSZ:=Lib.hid hsz
 clear h hb0 hsz
 unfold jzw
 by_cases he:which.tmod 2=0
 · have HE:Hid (jve 6 which l=((jdh (which.tdiv 2)).1,(jdh (which.tdiv 2)).2.1)):=Lib.hid (if_pos he)
   rw [HE.out]
   have HK:Hid (∀ W,Calls Try.prog 68 #[.int .i64 (which.tdiv 2)] W (jta (jdh (which.tdiv 2)).1 (jdh (which.tdiv 2)).2.1 (jdh (which.tdiv 2)).2.2 W)):=Lib.hid fun W=>jby W _
   unfold jta at HK
   have d1:(which.tmod 2 == 0)=true:=by simpa using he
   clear HE he hd
   generalize (jdh (which.tdiv 2)).1=p1 at *
   generalize (jdh (which.tdiv 2)).2.1=p2 at *
   generalize (jdh (which.tdiv 2)).2.2=p3 at *
   go_enter Try.func83,Try.ntmps83
   go_wp2_with (first
     | ((with_reducible refine jea 4 ?_); refine jca rfl (jbc rfl) ?_)
     | (go_at_call 68; (refine (HK.out _).mono ?_); rintro e w2 ⟨⟨A2,c2,rfl,ht⟩,hb⟩
        have HB2:=Lib.hid (bl3 HB0.out hb)
        have HT2:=Lib.hid ht
        have HG2:Hid (w2.heap[w.heap.size]?=some (.cells jvb 40 (0,0))):=Lib.hid ((hb.block _ (by rw [HSZ.out]; omega)).trans HG0.out)
        have HS2:Hid (w.heap.size + 1<=w2.heap.size):=Lib.hid (by have:=hb.size; rw [HSZ.out] at this; exact this)
        have HG3:Hid (∀ cs,((w2.alloc (.cells jvb 40)).setRow w2.heap.size cs).heap[w.heap.size]?=some (.cells jvb 40 (0,0))):=Lib.hid fun cs=>(setRow_other _ _ _ _ (by have:=HS2.out; omega)).trans ((((Below.refl w2.heap.size w2).alloc (Nat.le_refl _) (.cells jvb 40)).block _ (by have:=HS2.out; omega)).trans HG2.out)
        clear ht hb)
     | ((with_reducible refine jea 5 ?_); refine jca rfl (jbc rfl) ?_)
     | ((with_reducible refine jpi 40 5 15 ?_); refine wpList_skip rfl (jac (.tmp 5) (.tmp 15) rfl w2.heap.size jvb _ rfl rfl (heap_alloc_new w2 _) rfl rfl (jmi _ _ _ _)) ?_)
     | ((with_reducible refine jea 17 ?_); refine jca rfl (jho 40 (.tmp 5) _ _ rfl rfl (jgeb (setRow_heap _ _ _ _ _ _ (heap_alloc_new w2 _)))) ?_)
     | ((with_reducible refine jpi 40 4 17 ?_); refine wpList_skip rfl (jac (.tmp 4) (.tmp 17) rfl w.heap.size jvb _ rfl rfl (HG3.out _) rfl rfl (jmi _ _ _ _)) ?_))
   try simp only [Exit.inBlock,Exit.then]
   refine bodyPost_ret (jom (p:=4) rfl _ _ w.heap.size _ rfl (setRow_heap _ _ _ _ _ _ (HG3.out _)) rfl) rfl ⟨⟨_,_,rfl, ?_⟩, ?_⟩
   · refine HT2.out _ fun k hk hk2 => ?_
     rw [HSZ.out] at hk
     exact (setRow_other _ _ _ _ (by omega)).trans ((setRow_other _ _ _ _ (by omega)).trans (((Below.refl w2.heap.size w2).alloc (Nat.le_refl _) (.cells jvb 40)).block _ hk2))
   · exact below_setRow (below_setRow (HB2.out.alloc HB2.out.size _) (by have:=HS2.out; omega) _) (Nat.le_refl _) _
 · have h3:=Int.emod_nonneg (which.tdiv 2) (show (3:Int) ≠ 0 by omega)
   have h4:=Int.emod_lt_of_pos (which.tdiv 2) (show (0:Int) < 3 by omega)
   obtain ⟨m,hm⟩:=Int.eq_ofNat_of_zero_le h3
   have HE:Hid (jve 6 which l=(((1 + m:Nat):Int),jnc (1 + m) 6 l)):=Lib.hid (by
     unfold jve
     rw [if_neg he,hm,show (1 + (m:Int)).toNat=1 + m by omega]
     exact Prod.ext (by show (1:Int) + (m:Int)=((1 + m:Nat):Int); omega) (by simp))
   rw [HE.out]
   have hm3:m < 3:=by omega
   have HT:Hid (∀ W,Calls Try.prog 67 #[.int .i64 (which.tdiv 2),.int .i64 3] W fun e w'=>e=.returned (.int .i64 (m:Int))/\w'=W):=Lib.hid fun W=>by
     have:=jpb W (which.tdiv 2) 3 (by omega)
     rwa [show ((3:Nat):Int)=3 from rfl,hm] at this
   have HW:Hid (Calls Try.prog 90 #[.slice A l.length c,.int .i64 (1 + (m:Int))] (w.alloc (.cells jvb 40)) (jqf (jnc (1 + m) 6 l) (w.alloc (.cells jvb 40)))):=Lib.hid (by
     rw [show 1 + (m:Int)=((1 + m:Nat):Int) by omega]
     exact jso _ _ l (1 + m) (jie.below HI.out HB0.out) (by omega) hl)
   unfold jqf at HW
   have d1:(which.tmod 2 == 0)=false:=by simpa using he
   have hm0:(0:Int)<=(m:Int):=Int.natCast_nonneg _
   have hm1:(m:Int)<=2:=by omega
   have hmm:((1 + m:Nat):Int)=1 + (m:Int):=by omega
   rw [hmm]
   clear HE he hd h3 h4 hm hmm
   generalize jnc (1 + m) 6 l=X at *
   go_enter Try.func83,Try.ntmps83
   go_wp2_with (first
     | ((with_reducible refine jea 4 ?_); refine jca rfl (jbc rfl) ?_)
     | (go_at_call 67; (refine (HT.out _).mono ?_); rintro e w1 ⟨rfl,rfl⟩)
     | (go_at_call 90; (refine HW.out.mono ?_); rintro e w2 ⟨⟨A2,c2,rfl,ht⟩,hb⟩
        have HB2:=Lib.hid (bl3 HB0.out hb)
        have HT2:=Lib.hid ht
        have HG2:Hid (w2.heap[w.heap.size]?=some (.cells jvb 40 (0,0))):=Lib.hid ((hb.block _ (by rw [HSZ.out]; omega)).trans HG0.out)
        clear ht hb)
     | ((with_reducible refine jea 26 ?_); refine jca rfl (jzb (.tmp 22) (.tmp 25) (1 + (m:Int)) _ _ _ rfl rfl rfl) ?_; refine wpList_skip rfl (jac (.tmp 4) (.tmp 26) rfl w.heap.size jvb _ rfl rfl HG2.out rfl rfl (jmi _ _ _ _)) ?_))
   try simp only [Exit.inBlock,Exit.then]
   refine bodyPost_ret (jom (p:=4) rfl _ _ w.heap.size _ rfl (setRow_heap _ _ _ _ _ _ HG2.out) rfl) rfl ⟨⟨_,_,rfl, ?_⟩, ?_⟩
   · refine HT2.out _ fun k hk _ => ?_
     rw [HSZ.out] at hk
     exact setRow_other _ _ _ _ (by omega)
   · exact below_setRow HB2.out (Nat.le_refl _) _
theorem jdkb (which:Int) (l k:List Int):∃ g:Nat,(jve 6 which l).1=(g:Int)/\1<=g/\g<=3/\Wds g (jve 6 which l).2 6 60/\Wds g (jnc g 6 k) 6 12/\presE g (jve 6 which l).2=0/\∀ lim:Nat,1<=lim->lim<=20000->jhc g (jnc g 6 k) (lim:Int)=false:=by
 obtain ⟨g,h1,h2,h3,h4⟩:=jcfb 6 (Nat.le_refl _) which l
 have h5:=jkcb h2 6 k
 exact ⟨g,h1,h2,h3,h4,h5,h4.pres ⟨h2,by omega⟩ (by omega) (by omega),fun lim a b=>h5.good (by omega) (by omega) ⟨a,b⟩⟩
theorem Ct.Coset.holdsE {g : Nat} {rels sub : List W} {t : Tb} (h : Coset g rels sub t) (hp : presE g rels = 0) (hs : ∀ j, j < sub.length → LOk g (sub.getD j [])) : Go.Proofs.holdsE g rels sub t = (true, 0) := by
  have h4 : (sub.any fun w => w.any (jxa g)) = false := by
    rw [List.any_eq_false]
    intro w hw
    obtain ⟨j, hj, rfl⟩ := List.mem_iff_getElem.1 hw
    have := hs j hj
    rw [List.getD_eq_getElem?_getD, List.getElem?_eq_getElem hj] at this
    have h5 := jaw this
    simp only [Option.getD_some] at h5
    rw [h5]; simp
  unfold Go.Proofs.holdsE
  rw [if_neg (by rw [hp]; simp), Int.toNat_natCast, if_neg (by rw [h4]; simp), jcg h.full.good, if_neg (by simp), h.holds]
theorem jkgb {g lim:Nat} {rels sub:List W} (hg:1<=g/\g<=3) (hr:Wds g rels 6 60) (hs:Wds g sub 6 12) (hp:presE g rels=0) (hb:jhc g sub (lim:Int)=false) (hl:1<=lim/\lim<=300) :
   ∃ (T1:Tb) (d1 k1 x1:Int) (T2:Tb) (d2 k2 l2 x2:Int) (T3:Tb) (d3 k3 x3:Int),jfd g rels sub lim=(T1,(d1,k1),x1)/\jjh g rels sub lim=(T2,(d2,k2,l2),x2)/\jme g rels sub lim=(T3,(d3,k3),x3)/\(x1=12\/x1=0)/\(x2=12\/x2=0)/\(x3=12\/x3=0) /\
     (x1=0->x2=0->T1=T2)/\(x1=0->x3=0->T1=T3)/\(x2=0->x3=0->T2=T3)/\(x1=0->holdsE g rels sub T1=(true,0)/\stdE g T1 0=(T1,0))/\(x2=0->holdsE g rels sub T2=(true,0)/\stdE g T2 0=(T2,0)):=by
 have hg16:1<=g/\g<=16:=⟨hg.1,by omega⟩
 have hl2:1<=lim/\lim<=20000:=⟨hl.1,by omega⟩
 have hgi:=jis hp hb
 have c1:∃ T d k x,jfd g rels sub lim=(T,(d,k),x)/\(x=12\/x=0)/\(x=0->Coset g rels sub T):=by
   rcases jhw hg16 hr.ok hs.ok hgi hl2 with h | ⟨t,d,k,h,h2⟩
   · exact ⟨_,_,_,_,h,.inl rfl,fun h=>by cases h⟩
   · exact ⟨_,_,_,_,h,.inr rfl,fun _=>h2⟩
 have c2:∃ T d k l x,jjh g rels sub lim=(T,(d,k,l),x)/\(x=12\/x=0)/\(x=0->Coset g rels sub T):=by
   rcases jhbb hg16 hp hr.ok hs.ok hb hl2 with ⟨h,-⟩ | ⟨t,d,k,l,h⟩
   · exact ⟨_,_,_,_,_,h,.inl rfl,fun h=>by cases h⟩
   · exact ⟨_,_,_,_,_,h.is,.inr rfl,fun _=>h.coset⟩
 have c3:∃ T d k x,jme g rels sub lim=(T,(d,k),x)/\(x=12\/x=0)/\(x=0->Coset g rels sub T):=by
   rcases jrhb hg16 hp hr.ok hs.ok hb hl2 with h | ⟨t,d,k,h,h2⟩
   · exact ⟨_,_,_,_,h,.inl rfl,fun h=>by cases h⟩
   · exact ⟨_,_,_,_,h,.inr rfl,fun _=>h2⟩
 obtain ⟨T1,d1,k1,x1,a1,b1,e1⟩:=c1
 obtain ⟨T2,d2,k2,l2,x2,a2,b2,e2⟩:=c2
 obtain ⟨T3,d3,k3,x3,a3,b3,e3⟩:=c3
 exact ⟨T1,d1,k1,x1,T2,d2,k2,l2,x2,T3,d3,k3,x3,a1,a2,a3,b1,b2,b3,fun p q=>(e1 p).eq (e2 q) hr.ok hs.ok,fun p q=>(e1 p).eq (e3 q) hr.ok hs.ok,fun p q=>(e2 p).eq (e3 q) hr.ok hs.ok,
   fun p=>⟨(e1 p).holdsE hp hs.ok,jgz (e1 p).full (e1 p).std⟩,fun p=>⟨(e2 p).holdsE hp hs.ok,jgz (e2 p).full (e2 p).std⟩⟩
theorem jgf (g:Int) (rels sub:List W) (limit:Int) (T:Tb) (a b c:Int) (h:jfd g rels sub limit=(T,(a,b),c)) (h1:∀ j,(sub.getD j []).length<=100000) (h2:sub.length<=1000000) (h3:∀ j,(rels.getD j []).length<=100) (hl:limit<=1000) (W:World) (vr vs:Value) (hr:Tab W vr rels) (hs:Tab W vs sub) :
   Calls Try.prog 85 #[.agg #[.int .i64 g,vr],vs,.int .i64 limit] W fun e w'=>(∃ u,e=.returned (.tuple #[u,.agg #[.int .i64 a,.int .i64 b,.int .i64 0],.int .i64 c])/\Tab w' u T)/\Below W.heap.size W w' :=
 (felsch85_B W vr vs g rels sub limit hr hs h3 h1 h2 (.inl hl)).mono fun e w' (⟨⟨u,h5,h6⟩,h7⟩ : jkd g rels sub limit W e w')=>by
   rw [h] at h5 h6
   exact ⟨⟨u,h5,h6.at_⟩,h7⟩
theorem jblb (g:Int) (rels sub:List W) (limit:Int) (T:Tb) (a b l c:Int) (h:jjh g rels sub limit=(T,(a,b,l),c)) (h1:∀ j,(sub.getD j []).length<=100000) (h2:sub.length<=1000000) (h3:∀ j,(rels.getD j []).length<=100000) (hl:limit<=1000) (W:World) (vr vs:Value) (hr:Tab W vr rels) (hs:Tab W vs sub) :
   Calls Try.prog 87 #[.agg #[.int .i64 g,vr],vs,.int .i64 limit] W fun e w'=>(∃ u,e=.returned (.tuple #[u,.agg #[.int .i64 a,.int .i64 b,.int .i64 l],.int .i64 c])/\Tab w' u T)/\Below W.heap.size W w' :=
 (look87_B W vr vs g rels sub limit hr hs h3 h1 h2 (.inl hl)).mono fun e w' (⟨⟨u,h5,h6⟩,h7⟩ : jlf g rels sub limit W e w')=>by
   rw [h] at h5 h6
   exact ⟨⟨u,h5,h6.at_⟩,h7⟩
set_option maxRecDepth 100000 in
set_option maxHeartbeats 1000000 in
theorem jfq (w:World) (vr vs vt:Value) (g:Int) (rels sub:List W) (T:Tb) (hR:Tab w vr rels) (hS:Tab w vs sub) (hT:Tab w vt T) (hsm:∀ j,(rels.getD j []).length<=100000) (hh:holdsE g rels sub T=(true,0)) (hst:stdE g T 0=(T,0)) :
   Calls Try.prog 91 #[.agg #[.int .i64 g,vr],vs,vt] w fun e w'=>e=.returned (.bool true)/\Below w.heap.size w w':=by
 obtain ⟨Ar,cr,rfl⟩:=Tab.form hR
 obtain ⟨As,cs,rfl⟩:=Tab.form hS
 obtain ⟨At,ct,rfl⟩:=Tab.form hT
 have HP:Hid (∀ W,W=w.alloc (.cells #[.int .i64 g,.slice Ar rels.length cr] 40)->Below w.heap.size w W/\W.heap[w.heap.size]?=some (.cells #[.int .i64 g,.slice Ar rels.length cr] 40 (0,0))/\W.heap.size=w.heap.size + 1):=Lib.hid fun W h=>by
   subst h
   exact ⟨(Below.refl _ _).alloc (Nat.le_refl _) _,heap_alloc_new w _,by simp⟩
 have HRR:=Lib.hid hR
 have HSS:=Lib.hid hS
 have HTT:=Lib.hid hT
 have HSM:=Lib.hid hsm
 have HH:=Lib.hid hh
 have HST:=Lib.hid hst
 clear hR hS hT hsm hh hst
 go_enter Try.func91,Try.ntmps91
 go_wp2_with fail
 generalize hw0:w.alloc (.cells #[.int .i64 g,.slice Ar rels.length cr] 40)=w0 at *
 obtain ⟨hb0,hbx,hsz⟩:=HP.out w0 rfl
 have HB0:=Lib.hid hb0
 have HBX:Hid (∀ W,Below w0.heap.size w0 W->W.cell? ⟨w.heap.size,0,none⟩=some (.int .i64 g)/\W.cell? ⟨w.heap.size,1,none⟩=some (.slice Ar rels.length cr)/\Tab W (.slice Ar rels.length cr) rels/\Tab W (.slice As sub.length cs) sub/\Tab W (.slice At T.length ct) T/\Below w.heap.size w W):=Lib.hid fun W h=>by
   obtain ⟨a,b⟩:=jde ((h.block _ (by omega)).trans hbx)
   have h1:Below w.heap.size w W:=hb0.trans (h.mono hb0.size)
   exact ⟨a,b,jda.below HRR.out h1,jda.below HSS.out h1,jda.below HTT.out h1,h1⟩
 obtain ⟨hc0,hc1,-⟩:=HBX.out w0 (Below.refl _ _)
 have HRF:=Lib.hid (Below.refl w0.heap.size w0)
 have H44:Hid (∀ W,Below w0.heap.size w0 W->Calls Try.prog 44 #[.agg #[.int .i64 g,.slice Ar rels.length cr],.slice As sub.length cs,.slice At T.length ct] W fun e w'=>e=.returned (.tuple #[.bool true,.int .i64 0])/\Below w0.heap.size w0 w'):=Lib.hid fun W h=>by
   obtain ⟨-,-,h1,h2,h3,-⟩:=HBX.out W h
   exact (jdy W _ _ _ g rels sub T h1 h2 h3 HSM.out).mono fun e w' ⟨k1,k2⟩=>⟨by rw [k1,HH.out],h.trans (k2.mono h.size)⟩
 have H57:Hid (∀ W,Below w0.heap.size w0 W->Calls Try.prog 57 #[.int .i64 g,.slice At T.length ct,.int .i64 0] W fun e w'=>(∃ u,e=.returned (.tuple #[u,.int .i64 0])/\Tab w' u T)/\Below w0.heap.size w0 w'):=Lib.hid fun W h=>by
   obtain ⟨-,-,-,-,h3,-⟩:=HBX.out W h
   exact (jxcb W _ g T 0 h3).mono fun e w' ⟨⟨u,k1,k2⟩,k3⟩=>by
     rw [HST.out] at k1 k2
     exact ⟨⟨u,k1,k2⟩,h.trans (k3.mono h.size)⟩
 clear hw0 hb0 hbx hsz HP HRR HSS HTT HSM HH HST
 go_wp2_with (first
   | (go_at_call 44; (with_reducible refine (H44.out _ HRF.out).mono ?_); rintro e w1 ⟨rfl,hb⟩
      have HB1:=Lib.hid hb
      obtain ⟨hd0,hd1,-⟩:=HBX.out _ hb
      clear hb)
   | (go_at_call 57; (with_reducible refine (H57.out _ HB1.out).mono ?_); rintro e w2 ⟨⟨u,rfl,ht⟩,hb⟩
      obtain ⟨Au,cu,rfl⟩:=Tab.form ht
      have HB2:=Lib.hid hb
      have HT2:=Lib.hid ht
      clear hb ht)
   | (go_at_call 42; (refine (jrj _ _ _ _ _ HT2.out (HBX.out _ HB2.out).2.2.2.2.1).mono ?_); rintro e w3 ⟨rfl,q,rfl⟩
      have HB3:=Lib.hid (below_drewN HB2.out q)))
 go_ret
 exact ⟨jsa (by simp),(HBX.out _ HB3.out).2.2.2.2.2⟩
end Go.Proofs
namespace Go.Proofs
open Go.RowKit Go.Shelf Go.Proofs.Ct Go.Maps
set_option maxRecDepth 100000 in
set_option maxHeartbeats 4000000 in
theorem jbo (w:World) (which:Int) (vl vk:Value) (l k:List Int) (limit:Int) (hl:jma w vl l) (hk:jma w vk k) (hw : -9223372036854775808<=which/\which<=9223372036854775807) :
   Calls Try.prog 20 #[.int .i64 which,vl,vk,.int .i64 limit] w fun e w'=>e=.returned (.bool true)/\Below w.heap.size w w':=by
 obtain ⟨Al,cl,rfl,-,-,-⟩:=hl.open_
 obtain ⟨Ak,ck,rfl,-,-,-⟩:=hk.open_
 have HL:=Lib.hid hl
 have HK:=Lib.hid hk
 have hl0:(0:Int)<=(l.length:Int):=Int.natCast_nonneg _
 have hk0:(0:Int)<=(k.length:Int):=Int.natCast_nonneg _
 have HW:=Lib.hid hw
 clear hl hk hw
 by_cases a1:80 < (l.length:Int)
 · go_enter Try.func20,Try.ntmps20
   go_wp2_with fail
   refine (jhf _).mono ?_
   rintro e v1 ⟨rfl,hb⟩
   have HB1:=Lib.hid hb
   clear hb
   go_wp2_with fail
   go_ret
   exact ⟨rfl,HB1.out⟩
 have a1' : (l.length:Int)<=80:=by omega
 clear a1
 by_cases a2:30 < (k.length:Int)
 · go_enter Try.func20,Try.ntmps20
   go_wp2_with fail
   refine (jhf _).mono ?_
   rintro e v1 ⟨rfl,hb⟩
   have HB1:=Lib.hid hb
   clear hb
   go_wp2_with fail
   go_ret
   exact ⟨rfl,HB1.out⟩
 have a2' : (k.length:Int)<=30:=by omega
 clear a2
 obtain ⟨g,hg0,hg1,hg2,hg4,hg5,hp,hbad⟩:=jdkb which l k
 obtain ⟨z,hz⟩ : ∃ z,z=limit % 300:=⟨_,rfl⟩
 have hz0:0<=z:=by rw [hz]; exact Int.emod_nonneg _ (by omega)
 have hz1:z < 300:=by rw [hz]; exact Int.emod_lt_of_pos _ (by omega)
 obtain ⟨lm,hlm⟩ : ∃ lm,1 + z=lm:=⟨_,rfl⟩
 obtain ⟨lim,rfl⟩ : ∃ lim:Nat,lm=(lim:Int):=⟨lm.toNat,by omega⟩
 have hl1:1<=lim/\lim<=300:=by omega
 have hT67:∀ W:World,Calls Try.prog 67 #[.int .i64 limit,.int .i64 300] W fun e w'=>e=.returned (.int .i64 z)/\w'=W:=fun W=>by rw [hz]; exact jpb W limit 300 (by omega)
 have HT67:=Lib.hid hT67
 have hbd:=hbad lim hl1.1 (by omega)
 obtain ⟨T1,a1,b1,x1,T2,a2,b2,l2,x2,T3,a3,b3,x3,hE1,hE2,hE3,hx1,hx2,hx3,h12,h13,h23,hh1,hh2⟩:=jkgb ⟨hg1,hg2⟩ hg4 hg5 hp hbd hl1
 have HG:Hid (∀ W,Below w.heap.size w W->Calls Try.prog 83 #[.int .i64 which,.slice Al l.length cl] W fun e w'=>(∃ A c,e=.returned (.agg #[.int .i64 (g:Int),.slice A (jve 6 which l).2.length c])/\Tab w' (.slice A (jve 6 which l).2.length c) (jve 6 which l).2)/\Below W.heap.size W w'):=Lib.hid fun W h=>by
   rw [<- hg0]
   exact jgy W which _ l (HL.out.below h) (by omega) HW.out
 have HS:Hid (∀ W,Below w.heap.size w W->Calls Try.prog 90 #[.slice Ak k.length ck,.int .i64 (g:Int)] W fun e w'=>(∃ A c,e=.returned (.slice A (jnc g 6 k).length c)/\Tab w' (.slice A (jnc g 6 k).length c) (jnc g 6 k))/\Below W.heap.size W w'):=Lib.hid fun W h =>
   (jso W _ k g (HK.out.below h) (by omega) (by omega)).mono fun e w' (⟨⟨A,c,h1,h2⟩,h3⟩ : jqf _ W e w')=>⟨⟨A,c,h1,h2.at_⟩,h3⟩
 have hsh:∀ j,((jnc g 6 k).getD j []).length<=100000:=fun j=>by have:=hg5.short j; omega
 have hsl:(jnc g 6 k).length<=1000000:=by have:=hg5.len; omega
 have hrh:∀ j,((jve 6 which l).2.getD j []).length<=100:=fun j=>by have:=hg4.short j; omega
 have hrh2:∀ j,((jve 6 which l).2.getD j []).length<=100000:=fun j=>by have:=hg4.short j; omega
 have H85:=Lib.hid (jgf g (jve 6 which l).2 (jnc g 6 k) lim T1 a1 b1 x1 hE1 hsh hsl hrh (by omega))
 have H87:=Lib.hid (jblb g (jve 6 which l).2 (jnc g 6 k) lim T2 a2 b2 l2 x2 hE2 hsh hsl hrh2 (by omega))
 have H40:=Lib.hid (enumS g (jve 6 which l).2 (jnc g 6 k) lim T3 a3 b3 x3 hE3 hsh hsl)
 have H12:=Lib.hid h12
 have H13:=Lib.hid h13
 have H23:=Lib.hid h23
 have HH1:=Lib.hid hh1
 have HH2:=Lib.hid hh2
 clear hE1 hE2 hE3 h12 h13 h23 hh1 hh2
 have HRH:=Lib.hid hrh2
 clear hg0 hg4 hg5 hp hbad hbd hsh hsl hrh hrh2 hz hT67 hl1
 generalize (jve 6 which l).2=rels at *
 generalize jnc g 6 k=sub at *
 go_enter Try.func20,Try.ntmps20
 go_wp2_with fail
 refine (jhf _).mono ?_
 rintro e v1 ⟨rfl,hb⟩
 have HB1:=Lib.hid hb
 clear hb
 go_wp2_with fail
 refine (HG.out _ HB1.out).mono ?_
 rintro e v2 ⟨⟨A2,c2,rfl,ht⟩,hb⟩
 have HB2:=Lib.hid (bl3 HB1.out hb)
 have HT2:=Lib.hid ht
 clear ht hb
 have hld:∀ V,Below (v2.alloc (.cells #[.int .i64 (g:Int),.slice A2 rels.length c2] 40)).heap.size (v2.alloc (.cells #[.int .i64 (g:Int),.slice A2 rels.length c2] 40)) V->V.cell? ⟨v2.heap.size,0,none⟩=some (.int .i64 (g:Int))/\V.cell? ⟨v2.heap.size,1,none⟩=some (.slice A2 rels.length c2):=fun V h=>jde ((h.block _ (by simp)).trans (heap_alloc_new v2 _))
 have HLD:=Lib.hid hld
 have hal:=(Below.refl v2.heap.size v2).alloc (Nat.le_refl _) (.cells #[.int .i64 (g:Int),.slice A2 rels.length c2] 40)
 have HT3:=Lib.hid (jda.below HT2.out hal)
 have HB3:=Lib.hid (bl3 HB2.out hal)
 clear hal hld
 go_wp2_with fail
 generalize hw3:v2.alloc (.cells #[.int .i64 (g:Int),.slice A2 rels.length c2] 40)=v3 at *
 generalize v2.heap.size=B at *
 refine (HS.out _ HB3.out).mono ?_
 rintro e v4 ⟨⟨A4,c4,rfl,ht⟩,hb⟩
 have HR4:=Lib.hid hb
 have HS4:=Lib.hid ht
 obtain ⟨d0,d1⟩:=HLD.out _ hb
 clear ht hb HG HS hw3
 have HTR:Hid (∀ W,Below v3.heap.size v3 W->Tab W (.slice A2 rels.length c2) rels):=Lib.hid fun W h=>jda.below HT3.out h
 have hlm0:(1:Int)<=(lim:Int):=by omega
 have hlm1:(lim:Int)<=300:=by omega
 go_wp2_with fail
 refine (HT67.out _).mono ?_
 rintro e v5 ⟨rfl,rfl⟩
 go_wp2_with fail
 refine (H85.out _ _ _ (HTR.out _ HR4.out) HS4.out).mono ?_
 rintro e v6 ⟨⟨u,rfl,ht⟩,hb⟩
 obtain ⟨Av6,cv6,rfl⟩:=Tab.form ht
 have hal:=(Below.refl v6.heap.size v6).alloc (Nat.le_refl _) (.cells #[.int .i64 a1,.int .i64 b1,.int .i64 0] 49)
 have hbx:=Lib.hid (bl3 HR4.out hb)
 have HRv6:=Lib.hid (bl3 hbx.out hal)
 have HSv6:=Lib.hid (jda.below (jda.below HS4.out hb) hal)
 have HTv6:=Lib.hid (jda.below ht hal)
 clear d0 d1
 obtain ⟨d0,d1⟩:=HLD.out _ HRv6.out
 clear hal hb ht hbx H85 HS4 HR4
 go_wp2_with fail
 refine (H87.out _ _ _ (HTR.out _ HRv6.out) HSv6.out).mono ?_
 rintro e v8 ⟨⟨u,rfl,ht⟩,hb⟩
 obtain ⟨Av8,cv8,rfl⟩:=Tab.form ht
 have hal:=(Below.refl v8.heap.size v8).alloc (Nat.le_refl _) (.cells #[.int .i64 a2,.int .i64 b2,.int .i64 l2] 49)
 have hbx:=Lib.hid (bl3 HRv6.out hb)
 have HRv8:=Lib.hid (bl3 hbx.out hal)
 have HSv8:=Lib.hid (jda.below (jda.below HSv6.out hb) hal)
 have HTv8:=Lib.hid (jda.below ht hal)
 have HQ_T1_v8:=Lib.hid (jda.below (jda.below HTv6.out hb) hal)
 clear d0 d1
 obtain ⟨d0,d1⟩:=HLD.out _ HRv8.out
 clear hal hb ht hbx H87 HSv6 HRv6 HTv6
 go_wp2_with fail
 refine (H40.out _ _ _ (HTR.out _ HRv8.out) HSv8.out).mono ?_
 rintro e v10 ⟨⟨u,rfl,ht⟩,hb⟩
 obtain ⟨Av10,cv10,rfl⟩:=Tab.form ht
 have hal:=(Below.refl v10.heap.size v10).alloc (Nat.le_refl _) (.cells #[.int .i64 a3,.int .i64 b3,.int .i64 0] 49)
 have hbx:=Lib.hid (bl3 HRv8.out hb)
 have HRv10:=Lib.hid (bl3 hbx.out hal)
 have HSv10:=Lib.hid (jda.below (jda.below HSv8.out hb) hal)
 have HTv10:=Lib.hid (jda.below ht hal)
 have HQ_T1_v10:=Lib.hid (jda.below (jda.below HQ_T1_v8.out hb) hal)
 have HQ_T2_v10:=Lib.hid (jda.below (jda.below HTv8.out hb) hal)
 clear d0 d1
 obtain ⟨d0,d1⟩:=HLD.out _ HRv10.out
 clear hal hb ht hbx H40 HSv8 HRv8 HQ_T1_v8 HTv8
 have HALL:Hid (∀ W,Below (v10.alloc (.cells #[.int .i64 a3,.int .i64 b3,.int .i64 0] 49)).heap.size (v10.alloc (.cells #[.int .i64 a3,.int .i64 b3,.int .i64 0] 49)) W->Below w.heap.size w W/\(W.cell? ⟨B,0,none⟩=some (.int .i64 (g:Int))/\W.cell? ⟨B,1,none⟩=some (.slice A2 rels.length c2))/\Tab W (.slice Av6 (List.length T1) cv6) T1/\Tab W (.slice Av8 (List.length T2) cv8) T2/\Tab W (.slice Av10 (List.length T3) cv10) T3/\Tab W (.slice A2 rels.length c2) rels/\Tab W (.slice A4 sub.length c4) sub):=Lib.hid fun W h=>by
   have h1:=HRv10.out.trans (h.mono HRv10.out.size)
   exact ⟨HB3.out.trans (h1.mono HB3.out.size),HLD.out _ h1,jda.below HQ_T1_v10.out h,jda.below HQ_T2_v10.out h,jda.below HTv10.out h,HTR.out _ h1,jda.below HSv10.out h⟩
 have HBc:Hid (Below (v10.alloc (.cells #[.int .i64 a3,.int .i64 b3,.int .i64 0] 49)).heap.size (v10.alloc (.cells #[.int .i64 a3,.int .i64 b3,.int .i64 0] 49)) (v10.alloc (.cells #[.int .i64 a3,.int .i64 b3,.int .i64 0] 49))):=Lib.hid (Below.refl _ _)
 have C12:Hid (x1=0->x2=0->∀ W,Below (v10.alloc (.cells #[.int .i64 a3,.int .i64 b3,.int .i64 0] 49)).heap.size (v10.alloc (.cells #[.int .i64 a3,.int .i64 b3,.int .i64 0] 49)) W->Calls Try.prog 42 #[.slice Av6 (List.length T1) cv6,.slice Av8 (List.length T2) cv8] W fun e w'=>e=.returned (.bool true)/\Below (v10.alloc (.cells #[.int .i64 a3,.int .i64 b3,.int .i64 0] 49)).heap.size (v10.alloc (.cells #[.int .i64 a3,.int .i64 b3,.int .i64 0] 49)) w'):=Lib.hid fun k1 k2 W h=>by
   obtain ⟨-,-,i1,i2,i3,i4,i5⟩:=HALL.out W h
   exact (jzib W _ _ T2 (H12.out k1 k2 ▸ i1) i2).mono fun e w' ⟨j1,j2⟩=>⟨j1,h.trans (j2.mono h.size)⟩
 have C13:Hid (x1=0->x3=0->∀ W,Below (v10.alloc (.cells #[.int .i64 a3,.int .i64 b3,.int .i64 0] 49)).heap.size (v10.alloc (.cells #[.int .i64 a3,.int .i64 b3,.int .i64 0] 49)) W->Calls Try.prog 42 #[.slice Av6 (List.length T1) cv6,.slice Av10 (List.length T3) cv10] W fun e w'=>e=.returned (.bool true)/\Below (v10.alloc (.cells #[.int .i64 a3,.int .i64 b3,.int .i64 0] 49)).heap.size (v10.alloc (.cells #[.int .i64 a3,.int .i64 b3,.int .i64 0] 49)) w'):=Lib.hid fun k1 k2 W h=>by
   obtain ⟨-,-,i1,i2,i3,i4,i5⟩:=HALL.out W h
   exact (jzib W _ _ T3 (H13.out k1 k2 ▸ i1) i3).mono fun e w' ⟨j1,j2⟩=>⟨j1,h.trans (j2.mono h.size)⟩
 have C23:Hid (x2=0->x3=0->∀ W,Below (v10.alloc (.cells #[.int .i64 a3,.int .i64 b3,.int .i64 0] 49)).heap.size (v10.alloc (.cells #[.int .i64 a3,.int .i64 b3,.int .i64 0] 49)) W->Calls Try.prog 42 #[.slice Av8 (List.length T2) cv8,.slice Av10 (List.length T3) cv10] W fun e w'=>e=.returned (.bool true)/\Below (v10.alloc (.cells #[.int .i64 a3,.int .i64 b3,.int .i64 0] 49)).heap.size (v10.alloc (.cells #[.int .i64 a3,.int .i64 b3,.int .i64 0] 49)) w'):=Lib.hid fun k1 k2 W h=>by
   obtain ⟨-,-,i1,i2,i3,i4,i5⟩:=HALL.out W h
   exact (jzib W _ _ T3 (H23.out k1 k2 ▸ i2) i3).mono fun e w' ⟨j1,j2⟩=>⟨j1,h.trans (j2.mono h.size)⟩
 have D1:Hid (x1=0->∀ W,Below (v10.alloc (.cells #[.int .i64 a3,.int .i64 b3,.int .i64 0] 49)).heap.size (v10.alloc (.cells #[.int .i64 a3,.int .i64 b3,.int .i64 0] 49)) W->Calls Try.prog 91 #[.agg #[.int .i64 g,.slice A2 rels.length c2],.slice A4 sub.length c4,.slice Av6 (List.length T1) cv6] W fun e w'=>e=.returned (.bool true)/\Below (v10.alloc (.cells #[.int .i64 a3,.int .i64 b3,.int .i64 0] 49)).heap.size (v10.alloc (.cells #[.int .i64 a3,.int .i64 b3,.int .i64 0] 49)) w'):=Lib.hid fun k1 W h=>by
   obtain ⟨-,-,i1,i2,i3,i4,i5⟩:=HALL.out W h
   obtain ⟨q1,q2⟩:=HH1.out k1
   exact (jfq W _ _ _ g rels sub T1 i4 i5 i1 HRH.out q1 q2).mono fun e w' ⟨j1,j2⟩=>⟨j1,h.trans (j2.mono h.size)⟩
 have D2:Hid (x2=0->∀ W,Below (v10.alloc (.cells #[.int .i64 a3,.int .i64 b3,.int .i64 0] 49)).heap.size (v10.alloc (.cells #[.int .i64 a3,.int .i64 b3,.int .i64 0] 49)) W->Calls Try.prog 91 #[.agg #[.int .i64 g,.slice A2 rels.length c2],.slice A4 sub.length c4,.slice Av8 (List.length T2) cv8] W fun e w'=>e=.returned (.bool true)/\Below (v10.alloc (.cells #[.int .i64 a3,.int .i64 b3,.int .i64 0] 49)).heap.size (v10.alloc (.cells #[.int .i64 a3,.int .i64 b3,.int .i64 0] 49)) w'):=Lib.hid fun k1 W h=>by
   obtain ⟨-,-,i1,i2,i3,i4,i5⟩:=HALL.out W h
   obtain ⟨q1,q2⟩:=HH2.out k1
   exact (jfq W _ _ _ g rels sub T2 i4 i5 i2 HRH.out q1 q2).mono fun e w' ⟨j1,j2⟩=>⟨j1,h.trans (j2.mono h.size)⟩
 clear H12 H13 H23 HH1 HH2 HRH HRv10 HSv10 HTv10 HQ_T1_v10 HQ_T2_v10 HTR HLD HB1 HB2 HB3 HT2 HT3 HL HK HW HT67
 rcases hx1 with rfl | rfl <;> rcases hx2 with rfl | rfl <;> rcases hx3 with rfl | rfl
 all_goals (
   go_wp2_with (first
   | (go_at_call 42
      (first
        | (with_reducible refine (C12.out (by decide) (by decide) _ HBc.out).mono ?_)
        | (with_reducible refine (C13.out (by decide) (by decide) _ HBc.out).mono ?_)
        | (with_reducible refine (C23.out (by decide) (by decide) _ HBc.out).mono ?_))
      rintro e v ⟨rfl,hb⟩
      replace HBc:=Lib.hid hb
      clear d0 d1
      obtain ⟨d0,d1⟩:=(HALL.out _ hb).2.1
      clear hb)
   | (go_at_call 91
      (first
        | (with_reducible refine (D1.out (by decide) _ HBc.out).mono ?_)
        | (with_reducible refine (D2.out (by decide) _ HBc.out).mono ?_))
      rintro e v ⟨rfl,hb⟩
      replace HBc:=Lib.hid hb
      clear d0 d1
      obtain ⟨d0,d1⟩:=(HALL.out _ hb).2.1
      clear hb))
   go_ret
   exact ⟨rfl,(HALL.out _ HBc.out).1⟩)
end Go.Proofs
namespace Go.Proofs
open Go.RowKit Go.ChangeShapes Go.WideShapes Go.ChangeAt Go.Deep
section
variable {H:Type} {enc:TypeId × Value->H} {W:World}
theorem jzcb {a:Addr} {v:Value} (h:W.cell? (a.add 0)=some v):a=⟨a.block,a.off,none⟩:=by
 obtain ⟨b,o,s⟩:=a
 cases s with
 | none=>rfl
 | some q =>
   exfalso
   have e:({ block:=b,off:=o,spot:=some q }:Addr).add 0 = { block:=b,off:=o,spot:=some q }:=by unfold Addr.add; rw [if_pos rfl]
   rw [e] at h
   unfold World.cell? at h
   simp only [Option.isSome_some,if_true] at h
   split at h <;> cases h
theorem jex {x:Int} (h:(Lit.int .i64 x).wf=true) : -9223372036854775808<=x/\x<=9223372036854775807:=by
 simpa [Lit.wf,IntKind.min,IntKind.max,IntKind.signed,IntKind.bits] using h
theorem jay {α:Type} {R:World->Value->α->Prop} {d:α} {t e:TypeId} {base fuel:Nat} {spare:Nat->Bool} {held:Bool} {v:Value} {x:DataW H × List MemPlace} (ht:Try.prog.underlying t=some (.slice e)) (hc:Try.prog.cellsOf e=1)
   (hR:∀ n u y,DataW.trod enc Try.prog W base spare held n e [u]=some y->∃ z,R W u z) (h:DataW.trod enc Try.prog W base spare held fuel t [v]=some x):∃ xs,LAt R d W v xs:=by
 rcases open_slice1 ht hc h with ⟨hv,-⟩ | ⟨a,len,cap,m,n,V,D,Pl,hv,-,hl,hm,hmm,-,hx⟩
 · obtain rfl:v=.slice none 0 0:=by simpa using hv
   exact ⟨[], [],⟨none,0,0,rfl,rfl,Nat.le_refl _,by simp [maxLen],fun h=>absurd h (by simp)⟩,rfl,fun i hi=>absurd hi (by simp)⟩
 · obtain rfl:v=.slice (some a) len cap:=by simpa using hv
   have hlm:len<=m:=by rw [hmm]; split <;> omega
   have hz:∀ i,i < len->∃ z,R W (V i) z:=fun i hi=>hR n (V i) _ (hx i (by omega)).2
   have hf:∃ f:Nat->α, ∀ i,i < len->R W (V i) (f i):=by
     have hz' : ∀ i, ∃ z,i < len->R W (V i) z:=fun i=>by
       by_cases hi:i < len
       · obtain ⟨z,hz⟩:=hz i hi; exact ⟨z,fun _=>hz⟩
       · exact ⟨d,fun h=>absurd h hi⟩
     exact ⟨fun i=>Classical.choose (hz' i),fun i=>Classical.choose_spec (hz' i)⟩
   obtain ⟨f,hf⟩:=hf
   refine ⟨(List.range len).map f,(List.range len).map V,⟨_,len,cap,rfl,by simp,hl,hm,fun h0 => ?_⟩,by simp,fun i hi => ?_⟩
   · have hsp:=jzcb (hx 0 (by omega)).1
     refine ⟨a.block,a.off,by rw [<- hsp],fun j u hu => ?_⟩
     have hj:j < len:=by have:=(List.getElem?_eq_some_iff.1 hu).1; simpa using this
     have:=(hx j (by omega)).1
     rw [hsp,Addr.add_lit] at this
     rw [this, <- hu]
     simp [List.getElem?_range hj]
   · have hi' : i < len:=by simpa using hi
     refine ⟨V i,by simp [List.getElem?_range hi'], ?_⟩
     have:((List.range len).map f).getD i d=f i:=by simp [List.getD_eq_getElem?_getD,List.getElem?_range hi']
     rw [this]
     exact hf i hi'
theorem jyt {t:TypeId} (ht:Try.prog.underlying t=some (.slice 3)) {base fuel:Nat} {spare:Nat->Bool} {held:Bool} {v:Value} {x:DataW H × List MemPlace} (h:DataW.trod enc Try.prog W base spare held fuel t [v]=some x):∃ xs,jma W v xs:=by
 obtain ⟨xs,vs,hS,hl,he⟩:=jay (R:=fun _ u z=>u=.int .i64 z/\(Lit.int .i64 z).wf=true) (d:=0) ht (by kernel_rfl) (fun n u y hy=>by
   obtain ⟨m,hu,-,hw⟩:=DataW.trod_int Try.underlying3 hy
   exact ⟨m,by simpa using hu,hw⟩) h
 have hvs:vs=ints xs:=by
   apply List.ext_getElem (by simpa [ints] using hl)
   intro i h1 h2
   obtain ⟨u,hu,rfl,-⟩:=he i (by omega)
   have hi:i < xs.length:=by omega
   rw [List.getElem?_eq_getElem h1] at hu
   rw [Option.some.inj hu]
   simp [ints,List.getD_eq_getElem?_getD,hi]
 refine ⟨xs,hvs ▸ hS,fun z hz => ?_⟩
 obtain ⟨i,hi,rfl⟩:=List.getElem_of_mem hz
 obtain ⟨u,-,-,hw⟩:=he i hi
 have e:xs.getD i 0=xs[i]:=by simp [List.getD_eq_getElem?_getD,hi]
 rw [e] at hw
 exact jex hw
theorem jpn {base fuel:Nat} {spare:Nat->Bool} {held:Bool} {v:Value} {x:DataW H × List MemPlace} (h:DataW.trod enc Try.prog W base spare held fuel 24 [v]=some x):∃ xs,jma W v xs:=jyt Try.underlying24 h
end
end Go.Proofs
namespace Go.Proofs.Ytmpnengjboabcaa
open Go.ChangeShapes Go.WideShapes Go.ChangeAt Go.RowKit
theorem jsjb:(Try.prog.mayEnter)=true:=by kernel_rfl
end Go.Proofs.Ytmpnengjboabcaa
namespace Go.Proofs.Ytmpnengjboabcaa
open Go.ChangeShapes Go.WideShapes Go.ChangeAt Go.RowKit
theorem jrjb:((Rows.topPresentRow.lifted == Try.prog.liftsFinal))=true:=by kernel_rfl
end Go.Proofs.Ytmpnengjboabcaa
namespace Go.Proofs.Ytmpnengjboabcaa
open Go.ChangeShapes Go.WideShapes Go.ChangeAt Go.RowKit
theorem jqjb:((Try.prog.make == some Rows.topPresentRow.make))=true:=by kernel_rfl
end Go.Proofs.Ytmpnengjboabcaa
namespace Go.Proofs.Ytmpnengjboabcaa
open Go.ChangeShapes Go.WideShapes Go.ChangeAt Go.RowKit
theorem jnib:(laidOutB Try.prog)=true:=by kernel_rfl
theorem jvlb:(mapsRowed Try.prog)=true:=by kernel_rfl
theorem jtjb:(Try.prog.stopsHeard)=true:=by kernel_rfl
end Go.Proofs.Ytmpnengjboabcaa
namespace Go.Proofs.Ytmpnengjboabcaa
theorem juc {a b:Bool} (h:a=true) (k:b=true):(a && b)=true:=by rw [h,k]; rfl
theorem jweb {P:Program} {f:FuncId} {fn:Func} {s:ChangeSpec} {c:OpenClaim} (k0:(c.wf (OpenSpec.ofChange s))=true) (k1:(laidOutB P)=true) (k2:(mapsRowed P)=true) (k3:(fn.params.all (P.readableRec ·))=true) (k4:(namedTie P c.named s.vars)=true) (k5:((c.stops == []))=true) (k6:((P.stops == []))=true) (k7:((c.knobs == []))=true) (k8:((P.stopKnobs == []))=true) (k9:((c.inPlace == P.inPlace f))=true) (k10:((c.unfollowed == P.unfollowed f))=true) (k11:((c.recurses == P.recurses f))=true) (k12:((c.named == P.varsNamed f))=true) (k13:((c.maps == (fn.params.toList ++ s.plain.varTypes P).any (P.mapsRec ·)))=true) (k14:((c.ifaces == (fn.params.toList ++ s.plain.varTypes P).any (P.ifacesRec ·)))=true) (k15:((c.mapsOut == P.mapsAmong fn.resultTypes.toList))=true) (k16:((c.loops == (fn.params.toList ++ s.plain.varTypes P).any (P.loopsFrom ·)))=true) (k17:((c.wideKeys == (fn.params.toList ++ s.plain.varTypes P ++ fn.resultTypes.toList).any (P.wideKeysFrom ·)))=true) (k18:(s.vars.all (P.varReadable ·))=true) (k19:(fn.resultTypes.all (fun t=>P.readableRec t && decide (t < P.types.size)))=true) (k20:((c.ifacesOut == fn.resultTypes.toList.any (P.ifacesRec ·)))=true) (k21:((c.loopsOut == fn.resultTypes.toList.any (P.loopsFrom ·)))=true) (k22:((c.plainKeys == P.plainKeys))=true) (k23:(c.shortTexts.isNone)=true) (k24:(P.stopsHeard)=true) (k25:(P.mayEnter)=true) (k26:((c.lifted == P.liftsFinal))=true) (k27:((P.make == some c.make))=true) (k28:((c.domain.isEmpty && c.kinds == []))=true) (k29:((c.pinned == c.pinnedBy))=true) (k30:((c.veiled == (fn.params.toList ++ s.plain.varTypes P ++ fn.resultTypes.toList).any (P.veiledRec ·)))=true) (k31:(c.veiledFits P fn.params.toList (fn.params.toList ++ s.plain.varTypes P ++ fn.resultTypes.toList))=true):joinedFacts P f fn s c=true:=by
 have q28:=k28
 rw [Bool.and_eq_true,beq_iff_eq] at q28
 unfold joinedFacts
 refine (juc (juc (juc (juc (juc (juc (juc (juc (juc (juc (juc (juc (juc (juc (juc (juc (juc (juc (juc (juc (juc (juc (juc (juc (juc (juc (juc (juc (juc (juc (juc k0 k1) k2) k3) k4) k5) k6) k7) k8) k9) k10) k11) k12) k13) k14) k15) k16) k17) k18) k19) k20) k21) k22) k23) k24) k25) k26) k27) ?_) k29) k30) k31)
 rw [if_pos q28.1,q28.2]
 rfl
end Go.Proofs.Ytmpnengjboabcaa
