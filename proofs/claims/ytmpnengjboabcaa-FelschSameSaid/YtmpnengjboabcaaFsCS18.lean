/- column, Reverse, inverse of felsch (printed by genX7.py); The cosets of Felsch's strategy: walk; A region that draws its order: what its slots hold lies in blocks of their own (footprints); some are written again by the operation that takes them; What the slots of a drawn region hold, each in blocks of its own (for the law of T2); plain; the reference's Images; Words that numbers select: Turn, Letter, WordOf; WordsOf; power; the words of a law; The program's Images. -/
import Derived.Test.YtmpnengjboabcaaFsCS17
import Derived.Test.YtmpnengjboabcaaFsCS5
import Derived.Test.YtmpnengjboabcaaFsCS10
import Derived.Test.YtmpnengjboabcaaFsCS7
import Derived.Test.YtmpnengjboabcaaFsCS3
import Derived.Test.YtmpnengjboabcaaFsCS12
import Derived.Test.YtmpnengjboabcaaFsCS6
import Derived.Test.YtmpnengjboabcaaFsCS1
namespace Go.Proofs.Ct
def jzi (xs:List Int) (k:Nat):List Int:=jkb (fun k l=>(l.set k (l.getD (xs.length - 1 - k) 0)).set (xs.length - 1 - k) (l.getD k 0)) k xs
theorem jnm (xs:List Int) (k:Nat):jzi xs (k + 1)=((jzi xs k).set k ((jzi xs k).getD (xs.length - 1 - k) 0)).set (xs.length - 1 - k) ((jzi xs k).getD k 0):=rfl
theorem jbh (xs:List Int):∀ k,(jzi xs k).length=xs.length
 | 0=>rfl
 | k + 1=>by rw [jnm,List.length_set,List.length_set,jbh xs k]
theorem jhq {l:List Int} {k:Nat} {x:Int} (hk:k < l.length) (i:Nat):(l.set k x).getD i 0=if i=k then x else l.getD i 0:=by
 rw [List.getD_eq_getElem?_getD,List.getElem?_set]
 by_cases h:k=i
 · subst h
   rw [if_pos rfl,if_pos rfl]
   simp [hk]
 · rw [if_neg h,if_neg (fun e=>h e.symm),List.getD_eq_getElem?_getD]
theorem jtr (xs:List Int):∀ k,2 * k<=xs.length->∀ i,i < xs.length->(jzi xs k).getD i 0=if i < k\/xs.length<=i + k then xs.getD (xs.length - 1 - i) 0 else xs.getD i 0
 | 0,_,i,hi=>by rw [if_neg (by omega)]; rfl
 | k + 1,hk,i,hi=>by
   have ih:=jtr xs k (by omega)
   have hl:=jbh xs k
   rw [jnm,jhq (by rw [List.length_set]; omega),jhq (by omega),ih k (by omega),ih (xs.length - 1 - k) (by omega),ih i hi]
   rw [if_neg (by omega : ¬ (k < k\/xs.length<=k + k)),if_neg (by omega : ¬ (xs.length - 1 - k < k\/xs.length<=xs.length - 1 - k + k))]
   by_cases h1:i=xs.length - 1 - k
   · rw [if_pos h1,if_pos (by omega),h1,show xs.length - 1 - (xs.length - 1 - k)=k by omega]
   · rw [if_neg h1]
     by_cases h2:i=k
     · rw [if_pos h2,if_pos (by omega),h2]
     · rw [if_neg h2]
       by_cases h3:i < k\/xs.length<=i + k
       · rw [if_pos h3,if_pos (by omega)]
       · rw [if_neg h3,if_neg (by omega)]
theorem jhdb (xs:List Int) {k:Nat} (h1:2 * k<=xs.length) (h2:xs.length<=2 * k + 1):jzi xs k=xs.reverse:=by
 refine List.ext_getElem? fun i => ?_
 have hl:=jbh xs k
 rcases Nat.lt_or_ge i xs.length with hi | hi
 · have h:=jtr xs k h1 i hi
   rw [List.getD_eq_getElem?_getD,List.getElem?_eq_getElem (by omega)] at h
   rw [List.getElem?_eq_getElem (by omega),List.getElem?_eq_getElem (by simpa using hi),List.getElem_reverse]
   have e:xs.getD (xs.length - 1 - i) 0=xs[xs.length - 1 - i]:=by rw [List.getD_eq_getElem?_getD,List.getElem?_eq_getElem (by omega)]; rfl
   have e2:xs.getD i 0=xs[i]:=by rw [List.getD_eq_getElem?_getD,List.getElem?_eq_getElem hi]; rfl
   simp only [Option.getD_some] at h
   rw [h]
   split
   · rw [e]
   · congr 1
     rw [e2]
     congr 1
     omega
 · rw [List.getElem?_eq_none (by omega),List.getElem?_eq_none (by simpa using hi)]
def jgr (xs:List Int) (k:Nat):List Int:=jkb (fun k l=>l.set k (-(l.getD k 0))) k xs
theorem jrm (xs:List Int) (k:Nat):jgr xs (k + 1)=(jgr xs k).set k (-((jgr xs k).getD k 0)):=rfl
theorem jch (xs:List Int):∀ k,(jgr xs k).length=xs.length
 | 0=>rfl
 | k + 1=>by rw [jrm,List.length_set,jch xs k]
theorem jsm (xs:List Int):∀ k,k<=xs.length->∀ i,(jgr xs k).getD i 0=if i < k then -(xs.getD i 0) else xs.getD i 0
 | 0,_,i=>rfl
 | k + 1,hk,i=>by
   have ih:=jsm xs k (by omega)
   rw [jrm,jhq (by rw [jch]; omega),ih k,ih i,if_neg (Nat.lt_irrefl k)]
   by_cases h1:i=k
   · rw [if_pos h1,if_pos (by omega),h1]
   · rw [if_neg h1]
     by_cases h2:i < k
     · rw [if_pos h2,if_pos (by omega)]
     · rw [if_neg h2,if_neg (by omega)]
theorem jvdb (xs:List Int):jgr xs xs.length=xs.map fun x => -x:=by
 refine List.ext_getElem? fun i => ?_
 have hl:=jch xs xs.length
 rcases Nat.lt_or_ge i xs.length with hi | hi
 · have h:=jsm xs xs.length (Nat.le_refl _) i
   rw [if_pos hi,List.getD_eq_getElem?_getD,List.getD_eq_getElem?_getD,List.getElem?_eq_getElem (by omega),List.getElem?_eq_getElem hi] at h
   rw [List.getElem?_eq_getElem (by omega),List.getElem?_map,List.getElem?_eq_getElem hi]
   exact congrArg some h
 · rw [List.getElem?_eq_none (by omega),List.getElem?_eq_none (by simpa using hi)]
end Go.Proofs.Ct
namespace Go.Proofs
open Go.RowKit Go.Shelf Go.Proofs.Ct Go.Maps
set_option maxRecDepth 100000 in
theorem jcm (w:World) (x:Int) (h : -16<=x/\x<=16/\x ≠ 0):Calls Try.prog 217 #[.int .i64 x] w fun e w'=>e=.returned (.int .i64 (col x:Nat))/\w=w':=by
 obtain ⟨h1,h2,h3⟩:=h
 by_cases h:x < 0
 · have HC:Hid (((col x:Nat):Int) = -2 * x - 1):=Lib.hid (by unfold col; split <;> omega)
   go_enter Try.func217,Try.ntmps217
   go_wp2_with fail
   go_ret
   exact ⟨jrc HC.out.symm,rfl⟩
 · have HC:Hid (((col x:Nat):Int)=2 * x - 2):=Lib.hid (by unfold col; split <;> omega)
   have h4:0 < x:=by omega
   clear h
   go_enter Try.func217,Try.ntmps217
   go_wp2_with fail
   go_ret
   exact ⟨jrc HC.out.symm,rfl⟩
set_option maxRecDepth 100000 in
set_option maxHeartbeats 2000000 in
theorem jfr (base:Nat) (w:World) (v:Value) (xs:List Int) (ho:OwnI base w v xs) (hl:xs.length<=1000000) (hbw:base<=w.heap.size) :
   Calls Try.prog 212 #[v] w fun e w'=>e=.returned (.tuple #[])/\OwnI base w' v xs.reverse/\Below base w w':=by
 have HO:=Lib.hid ho
 have HBW:=Lib.hid hbw
 have hl0:(xs.length:Int)<=1000000:=by omega
 have hl1:(0:Int)<=(xs.length:Int):=Int.natCast_nonneg _
 rcases Nat.eq_zero_or_pos xs.length with h0 | h0
 · obtain ⟨A,c0,rfl⟩:=jgc ho
   have hx:xs = []:=List.length_eq_zero_iff.1 h0
   subst hx
   clear ho
   go_enter Try.func212,Try.ntmps212
   go_wp2_with fail
   go_loopw [2,3] (fun i j wr=>i=.int .i64 0/\j=.int .i64 (-1)/\wr=w) (fun i _ _=>0)
   case atStart=>exact ⟨rfl,rfl,rfl⟩
   case round =>
     obtain ⟨rfl,rfl,rfl⟩:=hrel
     go_wp2_with fail
     go_end0
     exact ⟨rfl,HO.out,Below.refl _ _⟩
 · obtain ⟨q,c0,rfl,hqb,-,-,-⟩:=jbd ho h0
   clear ho
   go_enter Try.func212,Try.ntmps212
   go_wp2_with fail
   go_loopw [2,3] (fun i j wr=>∃ (k:Nat) (J:Int),i=.int .i64 (k:Int)/\j=.int .i64 J/\J=(xs.length:Int) - 1 - k/\2 * k<=xs.length/\Hid (OwnI base wr (.slice (some ⟨q,0,none⟩) xs.length c0) (jzi xs k))/\Hid (Below base w wr)) (fun i _ _=>xs.length - (intOf i).toNat)
   case atStart=>exact ⟨0,_,rfl,rfl,by omega,by omega,HO,Lib.hid (Below.refl _ _)⟩
   case round =>
     obtain ⟨k,J,rfl,rfl,hJ,hk,HV,HB⟩:=hrel
     have hk0:(0:Int)<=(k:Int):=Int.natCast_nonneg _
     by_cases hlt:(k:Int) < J
     · obtain ⟨j,rfl⟩ : ∃ j:Nat,J=(j:Int):=⟨J.toNat,by omega⟩
       have hjl:j < xs.length:=by omega
       have hkl:k < xs.length:=by omega
       have hj:j=xs.length - 1 - k:=by omega
       have hjI:(j:Int) < (xs.length:Int):=by omega
       have hkI:(k:Int) < (xs.length:Int):=by omega
       have HR:OwnI base wr.drew (.slice (some ⟨q,0,none⟩) xs.length c0) (jzi xs k):=joe HV.out (Below.refl _ _).drew
       have hlr:=jbh xs k
       have hc1:=jxp HR (k:=k) (by omega)
       have hc2:=jxp HR (k:=j) (by omega)
       have hn1:=juj HR (g:=q) rfl (k:=k) (by omega) ((jzi xs k).getD j 0)
       have hc3:=jxp hn1 (k:=j) (by rw [List.length_set]; omega)
       have hn2:=juj hn1 (g:=q) rfl (k:=j) (by rw [List.length_set]; omega) ((jzi xs k).getD k 0)
       have hst:=jnm xs k
       rw [<- hj] at hst
       rw [<- hst] at hn2
       have HN:=Lib.hid hn2
       have HBE:Hid (Below base w ((wr.drew.setCell ⟨q,k,none⟩ (.int .i64 ((jzi xs k).getD j 0))).setCell ⟨q,j,none⟩ (.int .i64 ((jzi xs k).getD k 0)))):=Lib.hid ((HB.out.drew.setCell hqb _).setCell hqb _)
       have HCK:=Lib.hid hc1.1
       have HFK:=Lib.hid hc1.2
       have HCJ:=Lib.hid hc2.1
       have HCJ2:=Lib.hid hc3.1
       have HFJ2:=Lib.hid hc3.2
       clear hc1 hc2 hc3 hn1 hn2 hst HR hlr HV
       generalize ((jzi xs k).set k ((jzi xs k).getD j 0)).getD j 0=z at *
       generalize (jzi xs k).getD j 0=y at *
       generalize (jzi xs k).getD k 0=x at *
       go_wp2_with fail
       refine (wpIn_wide (n:=3)).1 ?_
       refine jra (by kernel_rfl) 16 rfl (fun i=>if i < 13 then some (14 + i) else if i=13 then none else if i=14 then some 27 else none) (jze (by kernel_rfl)) (fun ls W=>W=bif ls 15 then (wr.drew.setCell ⟨q,k,none⟩ (.int .i64 y)).setCell ⟨q,j,none⟩ (.int .i64 x) else bif ls 13 then wr.drew.setCell ⟨q,k,none⟩ (.int .i64 y) else wr.drew)
         (fun i v _=>v=([.slice (some ⟨q,0,none⟩) xs.length c0,.int .i64 (k:Int),.slice (some ⟨q,0,none⟩) xs.length c0,.int .i64 (j:Int),.slice (some ⟨q,0,none⟩) xs.length c0,.int .i64 (j:Int),.pointer (some ⟨q,j,none⟩),.int .i64 y,.slice (some ⟨q,0,none⟩) xs.length c0,.int .i64 (k:Int),.pointer (some ⟨q,k,none⟩),.int .i64 x,.pointer (some ⟨q,k,none⟩),undef,.pointer (some ⟨q,j,none⟩),undef]:List Value).getD i undef) (fun _ _ _=>True) (jaf (by kernel_rfl)) (fun _ _ _ _ _ _ _ _ _ h=>h) (jni (n:=28) (by kernel_rfl)) rfl ?_ ?_
       · intro ls q o a w2 hq ho hS2 hls hcl hP hpre
         have hcases:q=0\/q=1\/q=2\/q=3\/q=4\/q=5\/q=6\/q=7\/q=8\/q=9\/q=10\/q=11\/q=12\/q=13\/q=14\/q=15:=by
           have:q < 16:=hq
           omega
         rcases hcases with rfl | rfl | rfl | rfl | rfl | rfl | rfl | rfl | rfl | rfl | rfl | rfl | rfl | rfl | rfl | rfl
         · obtain rfl:=Option.some.inj ho
           exact jaa rfl rfl (jba (joa (.tmp 0) rfl (hP.out 0 (jpa (by kernel_rfl)))) ⟨_,rfl,hS2,trivial,(fun h=>by simp at h),rfl⟩)
         · obtain rfl:=Option.some.inj ho
           exact jaa rfl rfl (jba (joa (.tmp 2) rfl (hP.out 2 (jpa (by kernel_rfl)))) ⟨_,rfl,hS2,trivial,(fun h=>by simp at h),rfl⟩)
         · obtain rfl:=Option.some.inj ho
           exact jaa rfl rfl (jba (joa (.tmp 0) rfl (hP.out 0 (jpa (by kernel_rfl)))) ⟨_,rfl,hS2,trivial,(fun h=>by simp at h),rfl⟩)
         · obtain rfl:=Option.some.inj ho
           exact jaa rfl rfl (jba (joa (.tmp 3) rfl (hP.out 3 (jpa (by kernel_rfl)))) ⟨_,rfl,hS2,trivial,(fun h=>by simp at h),rfl⟩)
         · obtain rfl:=Option.some.inj ho
           exact jaa rfl rfl (jba (joa (.tmp 0) rfl (hP.out 0 (jpa (by kernel_rfl)))) ⟨_,rfl,hS2,trivial,(fun h=>by simp at h),rfl⟩)
         · obtain rfl:=Option.some.inj ho
           exact jaa rfl rfl (jba (joa (.tmp 3) rfl (hP.out 3 (jpa (by kernel_rfl)))) ⟨_,rfl,hS2,trivial,(fun h=>by simp at h),rfl⟩)
         · obtain rfl:=Option.some.inj ho
           exact jaa rfl rfl (jba (jnh (.tmp 18) (.tmp 19) _ _ rfl (hpre ⟨4,.data⟩ (by simp) rfl).2 (hpre ⟨5,.data⟩ (by simp) rfl).2 (jre Try.underlying25 jlm q _ c0 j hjl _)) ⟨_,rfl,hS2,trivial,(fun h=>by simp at h),rfl⟩)
         · obtain rfl:=Option.some.inj ho
           have h15:=jka hcl 15 rfl ⟨7,.phase⟩ (by simp) rfl hls
           have h13:=jka hcl 13 rfl ⟨7,.phase⟩ (by simp) rfl hls
           have hw:=sel3 hS2 h15 h13
           subst hw
           exact jaa rfl rfl (jba (jgb 3 agg3 (.tmp 20) ⟨q,j,none⟩ rfl (hpre ⟨6,.data⟩ (by simp) rfl).2 HCJ.out) ⟨_,rfl,hS2,trivial,(fun h=>by simp at h),rfl⟩)
         · obtain rfl:=Option.some.inj ho
           exact jaa rfl rfl (jba (joa (.tmp 0) rfl (hP.out 0 (jpa (by kernel_rfl)))) ⟨_,rfl,hS2,trivial,(fun h=>by simp at h),rfl⟩)
         · obtain rfl:=Option.some.inj ho
           exact jaa rfl rfl (jba (joa (.tmp 2) rfl (hP.out 2 (jpa (by kernel_rfl)))) ⟨_,rfl,hS2,trivial,(fun h=>by simp at h),rfl⟩)
         · obtain rfl:=Option.some.inj ho
           exact jaa rfl rfl (jba (jnh (.tmp 22) (.tmp 23) _ _ rfl (hpre ⟨8,.data⟩ (by simp) rfl).2 (hpre ⟨9,.data⟩ (by simp) rfl).2 (jre Try.underlying25 jlm q _ c0 k hkl _)) ⟨_,rfl,hS2,trivial,(fun h=>by simp at h),rfl⟩)
         · obtain rfl:=Option.some.inj ho
           have h15:=jka hcl 15 rfl ⟨11,.phase⟩ (by simp) rfl hls
           have h13:=jka hcl 13 rfl ⟨11,.phase⟩ (by simp) rfl hls
           have hw:=sel3 hS2 h15 h13
           subst hw
           exact jaa rfl rfl (jba (jgb 3 agg3 (.tmp 24) ⟨q,k,none⟩ rfl (hpre ⟨10,.data⟩ (by simp) rfl).2 HCK.out) ⟨_,rfl,hS2,trivial,(fun h=>by simp at h),rfl⟩)
         · obtain rfl:=Option.some.inj ho
           exact jaa rfl rfl (jba (jnh (.tmp 14) (.tmp 15) _ _ rfl (hpre ⟨0,.data⟩ (by simp) rfl).2 (hpre ⟨1,.data⟩ (by simp) rfl).2 (jre Try.underlying25 jlm q _ c0 k hkl _)) ⟨_,rfl,hS2,trivial,(fun h=>by simp at h),rfl⟩)
         · obtain rfl:=Option.some.inj ho
           have h15:=jka hcl 15 rfl ⟨13,.chain⟩ (by simp) rfl hls
           have hw:=sel3 hS2 h15 hls
           subst hw
           exact jaa rfl rfl (jic (jlc 3 (.tmp 26) (.tmp 21) _ _ _ rfl (hpre ⟨12,.data⟩ (by simp) rfl).2 (hpre ⟨7,.data⟩ (by simp) rfl).2 rfl HCK.out HFK.out (st3 _ _ _ HCK.out HFK.out)) ⟨undef,rfl,(by show _=bif ls 15 then _ else _; rw [h15]; rfl),trivial,fun _=>rfl,rfl⟩)
         · obtain rfl:=Option.some.inj ho
           exact jaa rfl rfl (jba (jnh (.tmp 16) (.tmp 17) _ _ rfl (hpre ⟨2,.data⟩ (by simp) rfl).2 (hpre ⟨3,.data⟩ (by simp) rfl).2 (jre Try.underlying25 jlm q _ c0 j hjl _)) ⟨_,rfl,hS2,trivial,(fun h=>by simp at h),rfl⟩)
         · obtain rfl:=Option.some.inj ho
           have h13:ls 13=true:=(hpre ⟨13,.chain⟩ (by simp) rfl).1
           rw [hls,h13] at hS2
           change w2=wr.drew.setCell ⟨q,k,none⟩ (.int .i64 y) at hS2
           subst hS2
           exact jaa rfl rfl (jic (jlc 3 (.tmp 27) (.tmp 25) _ _ _ rfl (hpre ⟨14,.data⟩ (by simp) rfl).2 (hpre ⟨11,.data⟩ (by simp) rfl).2 rfl HCJ2.out HFJ2.out (st3 _ _ _ HCJ2.out HFJ2.out)) ⟨undef,rfl,rfl,trivial,fun _=>rfl,rfl⟩)
       · intro ls a w2 hall hS2 hP hsl
         have h15:ls 15=true:=hall 15 (by decide)
         rw [h15] at hS2
         obtain ⟨vs,hvs,hfr⟩:=hP.frame 28 rfl
         clear hsl hP hall h15 hvs HCK HFK HCJ HCJ2 HFJ2
         subst hfr
         subst hS2
         dsimp only
         simp only [List.range,List.range.loop,List.map_cons,List.map_nil,List.any_cons,List.any_nil,Nat.reduceAdd,Nat.reduceBEq,Nat.reduceLT,Nat.reduceEqDiff,Option.some_beq_some,Bool.or_false,if_true,if_false,List.getD_cons_zero,List.getD_cons_succ,cond_true]
         generalize (wr.drew.setCell ⟨q,k,none⟩ (.int .i64 y)).setCell ⟨q,j,none⟩ (.int .i64 x)=w9 at *
         go_wp2_with fail
         go_roundw
         case rel=>exact ⟨k + 1,by go_num,by go_num,by omega,HN⟩
         case measure=>simp [intOf]; omega
     · have HE:=Lib.hid (jhdb xs (k:=k) hk (by omega))
       go_wp2_with fail
       go_end0
       exact ⟨rfl,by rw [<- HE.out]; exact HV.out,HB.out⟩
def jru (xs:List Int) (w:World) (e:Ending) (w' : World):Prop:=∃ A c,e=.returned (.slice A xs.length c)/\OwnI w.heap.size w' (.slice A xs.length c) (Ct.inv xs)/\Below w.heap.size w w'
set_option maxRecDepth 100000 in
set_option maxHeartbeats 2000000 in
theorem jjk (w:World) (v:Value) (xs:List Int) (h:jma w v xs) (hl:xs.length<=1000000) (hm:∀ x ∈ xs,Mild x) :
   Calls Try.prog 189 #[v] w (jru xs w):=by
 have HC:=Lib.hid (jry w v xs h hl)
 have HM:Hid (∀ k,Mild ((xs.reverse).getD k 0)):=Lib.hid fun k=>by
   rcases Nat.lt_or_ge k xs.reverse.length with h1 | h1
   · rw [List.getD_eq_getElem?_getD,List.getElem?_eq_getElem h1]
     exact hm _ (List.mem_reverse.1 (List.getElem_mem h1))
   · rw [List.getD_eq_getElem?_getD,List.getElem?_eq_none h1]
     exact ⟨by show (_:Int)<=0; omega,by show (0:Int)<=_; omega⟩
 obtain ⟨Av,cv,rfl,hcap,hmax,-⟩:=h.open_
 have hl0:(xs.length:Int)<=1000000:=by omega
 have hl1:(0:Int)<=(xs.length:Int):=Int.natCast_nonneg _
 have hrl:xs.reverse.length=xs.length:=List.length_reverse
 clear h hm
 unfold jru
 go_enter Try.func189,Try.ntmps189
 go_wp2_with fail
 refine HC.out.mono ?_
 rintro e w1 ⟨A,c0,rfl,ho,hb⟩
 have HB1:=Lib.hid hb
 have HRV:=Lib.hid (jfr w.heap.size w1 _ xs ho hl hb.size)
 clear ho hb
 go_wp2_with fail
 refine HRV.out.mono ?_
 rintro e w2 ⟨rfl,ho,hb⟩
 have HO2:=Lib.hid ho
 have HB2:=Lib.hid (HB1.out.trans hb)
 clear ho hb HRV HC HB1
 have HE:Hid (jgr xs.reverse xs.length=Ct.inv xs):=Lib.hid (by rw [<- hrl]; exact jvdb _)
 generalize xs.reverse=ys at *
 go_wp2_with fail
 go_loopw [11] (fun i wr=>∃ k:Nat,i=.int .i64 (k:Int)/\k<=xs.length/\Hid (OwnI w.heap.size wr (.slice A xs.length c0) (jgr ys k))/\Hid (Below w.heap.size w wr)) (fun i _=>xs.length - (intOf i).toNat)
 case atStart=>exact ⟨0,rfl,Nat.zero_le _,HO2,HB2⟩
 case round =>
   obtain ⟨k,rfl,hk,HV,HB⟩:=hrel
   have hk0:(0:Int)<=(k:Int):=Int.natCast_nonneg _
   by_cases hlt:k < xs.length
   · have hkI:(k:Int) < (xs.length:Int):=by omega
     have hln:=jch ys k
     obtain ⟨q,c1,e1,hqb,-,hcc,hff⟩:=jbd HV.out (by omega)
     injection e1 with e1 e2 e3
     subst e1
     have hck:=hcc k (by omega)
     have hfk:=hff k
     have hmk:=HM.out k
     have hgd:(jgr ys k).getD k 0=ys.getD k 0:=by rw [jsm ys k (by omega),if_neg (Nat.lt_irrefl k)]
     have hn2:=juj HV.out (g:=q) rfl (k:=k) (by omega) (-((jgr ys k).getD k 0))
     rw [<- jrm] at hn2
     rw [hgd] at hn2 hck
     have HN:=Lib.hid hn2
     have HBE:=Lib.hid (HB.out.setCell (p:=⟨q,k,none⟩) hqb (.int .i64 (-(ys.getD k 0))))
     unfold Mild at hmk
     clear hn2 hcc hff hgd HV e2 e3
     generalize ys.getD k 0=x at *
     have hx:=hmk.1
     have hx2:=hmk.2
     clear hmk
     go_wp2_with fail
     go_roundw
     case rel=>exact ⟨k + 1,by go_num,by omega,HN,HBE⟩
     case measure=>simp [intOf]; omega
   · obtain rfl:k=xs.length:=by omega
     go_wp2_with fail
     go_ret
     exact ⟨A,c0,rfl,by rw [<- HE.out]; exact HV.out,HB.out⟩
end Go.Proofs
namespace Go.Proofs
open Go.RowKit Go.Shelf Go.Proofs.Ct Go.Maps
set_option maxRecDepth 100000 in
set_option maxHeartbeats 4000000 in
theorem jto (K:Nat->Prop) (T:TypeId) (ex:List Value) (bl cs:Nat->Nat) (g base b wd lim r:Nat) (hg:g<=16) (w:World) (f:FS) (u:Value) (ws:W) (hI:Inv g f.s) (hS:StFB K T ex bl cs base b wd lim w f) (hn:f.s.t.length<=1000000) (hu:jma w u ws) (hl:LOk g ws) (hr:r < f.s.t.length) :
   Calls Try.prog 214 #[.pointer (some ⟨b,0,none⟩),.int .i64 (r:Int),u] w fun e w'=>e=.returned (.tuple #[.int .i64 (jla f.s.t r ws (fwd f.s.t r ws)),.int .i64 ((fwd f.s.t r ws:Nat):Int)])/\∃ q,w'=w.drewN q:=by
 obtain ⟨Au,cu,rfl,hu1,hu2,hu3⟩:=hu.open_
 have HU:=Lib.hid hu3
 have HL:=Lib.hid hl
 have HAT:Hid (∀ r c,r < f.s.t.length->c < 2 * g->∃ gr cr,w.cell? ⟨b,2,none⟩=some (.slice (some ⟨gr,0,none⟩) f.s.t.length cr)/\w.cell? ⟨gr,r,none⟩=some (.slice (some ⟨bl r,0,none⟩) (2 * g) (cs r))/\w.cell? ⟨bl r,c,none⟩=some (.int .i64 (f.s.t.at r c))):=Lib.hid fun r c h1 h2=>hS.at_ hI h1 h2
 have HCO:Hid (∀ (x:Int) n,-(g:Int)<=x/\x<=g/\x ≠ 0->Calls Try.prog 217 #[.int .i64 x] (w.drewN n) fun e w'=>e=.returned (.int .i64 (col x:Nat))/\w.drewN n=w'):=Lib.hid fun x n h=>jcm _ _ (by omega)
 have hr0:(0:Int)<=(r:Int):=Int.natCast_nonneg _
 have hn0:(f.s.t.length:Int)<=1000000:=by omega
 have hws0:(0:Int)<=(ws.length:Int):=Int.natCast_nonneg _
 have hws1:(ws.length:Int)<=9223372036854775807:=by omega
 have HRB:=Lib.hid hI.bd
 clear hS hu hu3 hl hI
 go_enter Try.func214,Try.ntmps214
 go_wp2_with fail
 go_loopw [1,13] (fun ff i wr=>∃ k z:Nat,i=.int .i64 k/\k<=ws.length/\ff=.int .i64 (z:Int)/\z < f.s.t.length/\Hid ((z:Int)=jla f.s.t r ws k)/\Hid (∀ j,j < k->0<=jla f.s.t r ws (j + 1))/\∃ q,wr=w.drewN q) (fun _ i _=>ws.length - (intOf i).toNat)
 case atStart=>exact ⟨0,r,rfl,by omega,rfl,hr,Lib.hid rfl,Lib.hid fun j hj=>absurd hj (by omega),0,rfl⟩
 case round =>
   obtain ⟨k,z,rfl,hk,rfl,hz,HZ,HJ,q,rfl⟩:=hrel
   have hk0:(0:Int)<=(k:Int):=Int.natCast_nonneg _
   have hz0:(0:Int)<=(z:Int):=Int.natCast_nonneg _
   have hzI:(z:Int) < (f.s.t.length:Int):=by omega
   by_cases hlt:k < ws.length
   · have hlt' : (k:Int) < (ws.length:Int):=by omega
     obtain ⟨bw,ow,rfl,hcc⟩:=HU.out (by omega)
     have hck:=hcc k hlt
     have hx:=HL.out.getD hlt
     have hcx:=HL.out.col hlt
     obtain ⟨gr,cr,a1,a2,a3⟩:=HAT.out z (col (ws.getD k 0)) hz hcx
     have HNX:Hid (jla f.s.t r ws (k + 1)=f.s.t.at z (col (ws.getD k 0))):=Lib.hid (by
       rw [jnb, <- HZ.out,if_neg (by omega),Int.toNat_natCast])
     have hbd:=HRB.out z hz _ hcx
     have HC1:Hid (∀ n,Calls Try.prog 217 #[.int .i64 (ws.getD k 0)] (w.drewN n) fun e w'=>e=.returned (.int .i64 (col (ws.getD k 0):Nat))/\w.drewN n=w'):=Lib.hid fun n=>HCO.out _ n hx
     have hc0:(0:Int)<=((col (ws.getD k 0):Nat):Int):=Int.natCast_nonneg _
     have hc1:((col (ws.getD k 0):Nat):Int) < ((2 * g:Nat):Int):=by omega
     have hxr : -16<=ws.getD k 0/\ws.getD k 0<=16:=by omega
     clear hcc hx
     by_cases hy:f.s.t.at z (col (ws.getD k 0)) < 0
     · have HK:Hid (jla f.s.t r ws (k + 1) < 0):=Lib.hid (by rw [HNX.out]; exact hy)
       have HF:Hid (fwd f.s.t r ws=k):=Lib.hid (jks (by omega) (.inr HK.out) HJ.out)
       obtain ⟨hy1,hy2⟩:=hbd
       generalize f.s.t.at z (col (ws.getD k 0))=y at *
       generalize col (ws.getD k 0)=cx at *
       generalize ws.getD k 0=x at *
       generalize 2 * g=m at *
       go_wp2_with fail
       go_quiet ((go_at_call 217; exact jza (HC1.out _)))
       go_wp2_with fail
       go_ret2
       exact ⟨jqb (by rw [HF.out]; exact HZ.out) (by rw [HF.out]),(by first | exact ⟨_,rfl⟩ | exact job)⟩
     · obtain ⟨y,hye⟩ : ∃ y:Nat,f.s.t.at z (col (ws.getD k 0))=(y:Int):=⟨(f.s.t.at z (col (ws.getD k 0))).toNat,by omega⟩
       rw [hye] at HNX a3 hbd hy
       have hy2:y < f.s.t.length:=by omega
       have hy0:(0:Int)<=(y:Int):=Int.natCast_nonneg _
       have HJ2:Hid (∀ j,j < k + 1->0<=jla f.s.t r ws (j + 1)):=Lib.hid fun j hj=>by
         rcases Nat.lt_or_ge j k with h | h
         · exact HJ.out j h
         · obtain rfl:j=k:=by omega
           rw [HNX.out]; exact hy0
       clear hbd hye
       generalize col (ws.getD k 0)=cx at *
       generalize ws.getD k 0=x at *
       generalize 2 * g=m at *
       go_wp2_with fail
       go_quiet ((go_at_call 217; exact jza (HC1.out _)))
       go_wp2_with fail
       go_roundw
       case rel=>exact ⟨k + 1,y,by go_num,by omega,rfl,hy2,Lib.hid HNX.out.symm,HJ2,(by first | exact ⟨_,rfl⟩ | exact job)⟩
       case measure=>simp [intOf]; omega
   · obtain rfl:k=ws.length:=by omega
     have HF:Hid (fwd f.s.t r ws=ws.length):=Lib.hid (jks (Nat.le_refl _) (.inl rfl) HJ.out)
     go_wp2_with fail
     go_ret2
     exact ⟨jqb (by rw [HF.out]; exact HZ.out) (by rw [HF.out]),(by first | exact ⟨_,rfl⟩ | exact job)⟩
end Go.Proofs
namespace Go.Proofs
open Go.RowKit Go.Shelf Go.Proofs.Ct Go.Maps
def usB (ops:Array Oper) (N:Nat) (us:Nat->Nat->Bool):Bool:=(List.range N).all fun i=>(List.range N).all fun j => !us i j || (match ops[i]? with | some o=>o.after.toList.any fun e=>decide (e.on=j) && Region.binds .any e | none=>false)
theorem us_of {ops:Array Oper} {N:Nat} {us:Nat->Nat->Bool} (h:usB ops N us=true):∀ i j,i < N->j < N->us i j=true->∀ o,ops[i]?=some o->∃ e ∈ o.after.toList,e.on=j/\Region.binds .any e=true:=fun i j hi hj hu o ho=>by
 unfold usB at h
 rw [List.all_eq_true] at h
 have h1:=h i (by simpa using hi)
 rw [List.all_eq_true] at h1
 have h2:=h1 j (by simpa using hj)
 rw [hu,ho] at h2
 simp only [Bool.not_true,Bool.false_or,List.any_eq_true,Bool.and_eq_true,decide_eq_true_eq] at h2
 obtain ⟨e,he,h3,h4⟩:=h2
 exact ⟨e,he,h3,h4⟩
def uqB (N:Nat) (wr:Nat->Bool) (us:Nat->Nat->Bool):Bool:=(List.range N).all fun i=>(List.range N).all fun i'=>(List.range N).all fun j => !wr j || !us i j || !us i' j || i == i'
theorem uq_of {N:Nat} {wr:Nat->Bool} {us:Nat->Nat->Bool} (h:uqB N wr us=true):∀ i i' j,i < N->i' < N->j < N->wr j=true->us i j=true->us i' j=true->i=i':=fun i i' j hi hi' hj h1 h2 h3=>by
 unfold uqB at h
 rw [List.all_eq_true] at h
 have k1:=h i (by simpa using hi)
 rw [List.all_eq_true] at k1
 have k2:=k1 i' (by simpa using hi')
 rw [List.all_eq_true] at k2
 have k3:=k2 j (by simpa using hj)
 rw [h1,h2,h3] at k3
 simpa using k3
structure Step (N:Nat) (wr:Nat->Bool) (us:Nat->Nat->Bool) (O:Nat->Nat->Prop) (i:Nat) (O' : Nat->Prop) (w w' : World):Prop where
 size:w.heap.size<=w'.heap.size
 keep:∀ k,k < w.heap.size->(∀ j,j < N->us i j=true->wr j=true -> ¬ O j k)->w'.heap[k]?=w.heap[k]?
 foot:∀ k,O' k->k < w'.heap.size/\(w.heap.size<=k\/∃ j,j < N/\us i j=true/\O j k/\(wr i=true->wr j=true))
section
variable {F:Fence} {n:Nat} {P:Program} {ops:Array Oper} {Q:Exit->Act->World->Prop}
end
end Go.Proofs
namespace Go.Proofs
open Go.RowKit Go.Shelf Go.Proofs.Ct Go.Maps
def TabS (F:Nat->Prop) (w:World) (u:Value) (ys:List (List Int)):Prop:=∃ vs,(∀ w',Ag F w w'->Sl w' u vs)/\jeo F w vs ys
def RdT (F:Nat->Prop) (w:World) (u:Value) (ys:List (List Int)):Prop:=∀ w',Ag F w w'->Tab w' u ys
section
variable {F G:Nat->Prop} {w w' : World} {u:Value} {ys:List (List Int)}
theorem TabS.keep (h:TabS F w u ys) (ha:Ag F w w'):TabS F w' u ys:=by
 obtain ⟨vs,h1,h2⟩:=h
 exact ⟨vs,fun w'' h'=>h1 w'' (ha.trans h'),h2.keep ha fun _ h=>h⟩
theorem TabS.mono (h:TabS F w u ys) (hg:∀ k,F k->G k):TabS G w u ys:=by
 obtain ⟨vs,h1,h2⟩:=h
 exact ⟨vs,fun w' h'=>h1 w' fun k hk=>h' k (hg k hk),h2.keep (Ag.refl _ _) hg⟩
theorem TabS.tab (h:TabS F w u ys):Tab w u ys:=by
 obtain ⟨vs,h1,h2⟩:=h
 exact ⟨vs,h1 w (Ag.refl _ _),h2.1,fun i hi=>let ⟨x,hx,hr⟩:=h2.2 i hi; ⟨x,hx,hr.at_⟩⟩
theorem RdT.keep (h:RdT F w u ys) (ha:Ag F w w'):RdT F w' u ys:=fun w'' h'=>h w'' (ha.trans h')
end
inductive FP where
 | any | eq (v:Value) | ints (l:List Int) | tab (l:List (List Int)) | rd (l:List (List Int)) | own (l:List Int) | ownT (l:List (List Int)) | box (e:TypeId) (cs:Array Value) | enum (t:List (List Int)) (a b c:Int) | tup (l:List Int) (e:Int) | tupT (l:List (List Int)) (e:Int)
def Fb (base:Nat) (O:Nat->Prop):Nat->Prop:=fun k=>k < base\/O k
def FP.holds (base:Nat):FP->Value->(Nat->Prop)->World->Prop
 | .any,_,_,_=>True
 | .eq u,v,_,_=>v=u
 | .ints l,v,O,w=>∃ A c,v=.slice A l.length c/\jtf (Fb base O) w (.slice A l.length c) l
 | .tab l,v,O,w=>∃ A c,v=.slice A l.length c/\TabS (Fb base O) w (.slice A l.length c) l
 | .rd l,v,O,w=>∃ A c,v=.slice A l.length c/\RdT (Fb base O) w (.slice A l.length c) l
 | .own l,v,O,w=>∃ A c,v=.slice A l.length c/\OwnI base w (.slice A l.length c) l/\∀ r,(Value.slice A l.length c).ownBlock=some r->O r
 | .ownT l,v,O,w=>∃ A c F,v=.slice A l.length c/\OwnT 25 base F w (.slice A l.length c) l/\(∀ k,F k->Fb base O k/\k < w.heap.size/\(Value.slice A l.length c).ownBlock ≠ some k)/\∀ r,(Value.slice A l.length c).ownBlock=some r->O r
 | .box e cs,v,O,w=>∃ q,v=.pointer (some ⟨q,0,none⟩)/\O q/\w.heap[q]?=some (.cells cs e (0,0))
 | .enum t a b c,v,O,w=>∃ A n,v=.tuple #[.slice A t.length n,.agg #[.int .i64 a,.int .i64 b,.int .i64 0],.int .i64 c]/\RdT (Fb base O) w (.slice A t.length n) t
 | .tup l e,v,O,w=>∃ A n,v=.tuple #[.slice A l.length n,.int .i64 e]/\jtf (Fb base O) w (.slice A l.length n) l
 | .tupT l e,v,O,w=>∃ A n,v=.tuple #[.slice A l.length n,.int .i64 e]/\RdT (Fb base O) w (.slice A l.length n) l
section
variable {base:Nat} {O O' : Nat->Prop} {W0 w w' : World} {v:Value}
theorem ag_fb (_hb:W0.heap.size=base) (h1:Below base W0 w) (h2:Below base W0 w') (h:∀ k,O k->w'.heap[k]?=w.heap[k]?):Ag (Fb base O) w w':=fun k hk=>by
 rcases hk with hk | hk
 · rw [h1.block k (by omega),h2.block k (by omega)]
 · exact h k hk
theorem FP.keep {p:FP} (hb:W0.heap.size=base) (h1:Below base W0 w) (h2:Below base W0 w') (hs:w.heap.size<=w'.heap.size) (h:∀ k,O k->w'.heap[k]?=w.heap[k]?):p.holds base v O w->p.holds base v O w':=by
 have ha:=ag_fb hb h1 h2 h
 cases p with
 | any=>exact id
 | eq u=>exact id
 | ints l=>exact fun ⟨A,c,e,k⟩=>⟨A,c,e,k.keep ha⟩
 | tab l=>exact fun ⟨A,c,e,k⟩=>⟨A,c,e,k.keep ha⟩
 | rd l=>exact fun ⟨A,c,e,k⟩=>⟨A,c,e,k.keep ha⟩
 | own l=>exact fun ⟨A,c,e,k,k2⟩=>⟨A,c,e,jna k fun r hr=>h r (k2 r hr),k2⟩
 | ownT l=>exact fun ⟨A,c,F,e,k,k2,k3⟩=>⟨A,c,F,e,k.keep (fun r hr=>h r (k3 r hr)) (fun x hx=>ha x (k2 x hx).1) (fun _ h=>h),fun x hx=>⟨(k2 x hx).1,Nat.lt_of_lt_of_le (k2 x hx).2.1 hs,(k2 x hx).2.2⟩,k3⟩
 | box e cs=>exact fun ⟨q,e,k,k2⟩=>⟨q,e,k,(h q k).trans k2⟩
 | enum t a b c=>exact fun ⟨A,n,e,k⟩=>⟨A,n,e,k.keep ha⟩
 | tup l x=>exact fun ⟨A,n,e,k⟩=>⟨A,n,e,k.keep ha⟩
 | tupT l x=>exact fun ⟨A,n,e,k⟩=>⟨A,n,e,k.keep ha⟩
end
def Mx (N:Nat) (wr:Nat->Bool) (us:Nat->Nat->Bool) (O:Nat->Nat->Prop) (i:Nat) (w w' : World):Nat->Prop:=fun k=>k < w'.heap.size/\(w.heap.size<=k\/∃ j,j < N/\us i j=true/\O j k/\(wr i=true->wr j=true))
section
variable {N:Nat} {wr:Nat->Bool} {us:Nat->Nat->Bool} {O:Nat->Nat->Prop} {i:Nat} {w w' : World}
theorem Step.below (h:Below w.heap.size w w'):Step N wr us O i (Mx N wr us O i w w') w w':=⟨h.size,fun k hk _=>h.block k hk,fun _ h=>h⟩
theorem Step.same:Step N wr us O i (Mx N wr us O i w w) w w:=Step.below (Below.refl _ _)
theorem Step.grown {row:Option Nat} (h:w.grownBy w' row) (hr:∀ r,row=some r->∃ j,j < N/\us i j=true/\wr j=true/\O j r):Step N wr us O i (Mx N wr us O i w w') w w':=⟨h.size,fun k hk hn=>h.block k hk fun e=>by
 obtain ⟨j,h1,h2,h3,h4⟩:=hr k e.symm
 exact hn j h1 h2 h3 h4,fun _ h=>h⟩
theorem Mx.fresh {k:Nat} (h1:w.heap.size<=k) (h2:k < w'.heap.size):Mx N wr us O i w w' k:=⟨h2,.inl h1⟩
theorem Mx.of {j k:Nat} (hj:j < N) (hu:us i j=true) (hw:wr i=true->wr j=true) (hO:O j k) (hk:k < w'.heap.size):Mx N wr us O i w w' k:=⟨hk,.inr ⟨j,hj,hu,hO,hw⟩⟩
end
theorem jey {w w' W0:World} {base:Nat} {row:Option Nat} (hb:W0.heap.size=base) (h0:Below base W0 w) (h:w.grownBy w' row) (hr:∀ r,row=some r->base<=r):Below base W0 w' :=
 ⟨h.os.trans h0.os,h.tape.trans h0.tape,h.output.trans h0.output,Nat.le_trans h0.size h.size,fun k hk=>(h.block k (by have:=h0.size; omega) fun e=>by have:=hr k e.symm; omega).trans (h0.block k hk)⟩
section
variable {o:Oper} {a:Act} {w w' : World} {n:Nat} {v:Value}
theorem jrp (k:Nat) (x:Operand) (vs:Array Value) (ho:o.op=.extract x k) (hx:a.eval x=.tuple vs) (hk:vs[k]?=some v):(execOp a.eval o).run Try.prog w=.ok (.value v) w:=by
 unfold execOp
 simp only [ho,hx]
 simp [go_sem,hk]
end
end Go.Proofs
namespace Go.Proofs
open Go.RowKit Go.Shelf Go.Proofs.Ct Go.Maps
theorem jocb {α:Type} {d:α} {l:List α} {k:Nat} (h:k < l.length):l.take (k + 1)=l.take k ++ [l.getD k d]:=by
 rw [List.take_add_one,List.getD_eq_getElem?_getD,List.getElem?_eq_getElem h]; rfl
end Go.Proofs
namespace Go.Proofs
open Go.RowKit Go.Shelf Go.Proofs.Ct Go.Maps
theorem jpb (w:World) (x:Int) (n:Nat) (hn:1<=n/\n<=1000000):Calls Try.prog 67 #[.int .i64 x,.int .i64 (n:Int)] w fun e w'=>e=.returned (.int .i64 (x % (n:Int)))/\w'=w:=by
 have hk0:(0:Int) < (n:Int):=by omega
 have hk1:(n:Int)<=1000000:=by omega
 have h3:x.tmod n < n:=Int.tmod_lt_of_pos _ hk0
 have h4 : -(n:Int) < x.tmod n:=by
   have:=Int.lt_tmod_of_pos x hk0
   omega
 have h5:(x.tmod n + n).tmod n=x % n:=by
   rw [Int.tmod_eq_emod_of_nonneg (by omega),Int.add_emod_right,Int.tmod_eq_emod]
   split <;> simp
 have H5:=Lib.hid h5
 clear h5
 generalize hm:x.tmod (n:Int)=m at *
 have hne:(n:Int) ≠ 0:=by omega
 have h6:(m + n).tmod n < n:=Int.tmod_lt_of_pos _ hk0
 have h7:0<=(m + n).tmod (n:Int):=by rw [H5.out]; exact Int.emod_nonneg _ hne
 generalize hz:(m + (n:Int)).tmod (n:Int)=z at *
 go_enter Try.func67,Try.ntmps67
 go_wp2_with fail
 go_ret
 exact ⟨jrc (by first | exact H5.out | (rw [<- H5.out])),(by first | trivial | rfl)⟩
theorem jyv (w:World) (c:Nat) (hc:c<=1000000):Calls Try.prog 69 #[.int .i64 (c:Int)] w fun e w'=>e=.returned (.int .i64 (letter c))/\w'=w:=by
 have h0:(0:Int)<=(c:Int):=Int.natCast_nonneg _
 have h1:(c:Int)<=1000000:=by omega
 have hm:(c:Int).tmod 2=(c:Int) % 2:=Int.tmod_eq_emod_of_nonneg h0
 have hd:(c:Int).tdiv 2=(c:Int) / 2:=Int.tdiv_eq_ediv_of_nonneg h0
 have HL:Hid (letter c=if (c:Int) % 2=0 then (c:Int) / 2 + 1 else -((c:Int) / 2 + 1)):=Lib.hid (by
   unfold letter
   split <;> split <;> omega)
 generalize hy:(c:Int) / 2=y at *
 have hy0:0<=y:=by omega
 have hy1:y<=1000000:=by omega
 by_cases h:(c:Int) % 2=0
 · have d1:((c:Int) % 2 == 0)=true:=by simpa using h
   rw [if_pos h] at HL
   generalize (c:Int) % 2=m at *
   generalize letter c=l at *
   clear h
   go_enter Try.func69,Try.ntmps69
   go_wp2_with fail
   go_ret
   exact ⟨jrc (by rw [HL.out]),(by first | trivial | rfl)⟩
 · have d1:((c:Int) % 2 == 0)=false:=by simpa using h
   rw [if_neg h] at HL
   generalize (c:Int) % 2=m at *
   generalize letter c=l at *
   clear h
   go_enter Try.func69,Try.ntmps69
   go_wp2_with fail
   go_ret
   exact ⟨jrc (by rw [HL.out]),(by first | trivial | rfl)⟩
def jye (g:Nat) (l:List Int):List Int:=l.map fun x=>letter (x % ((2 * g:Nat):Int)).toNat
theorem jxf (g:Nat) (l:List Int):(jye g l).length=l.length:=by simp [jye]
theorem jdx {g:Nat} {l:List Int} {k:Nat} (h:k < l.length):jye g (l.take (k + 1))=jye g (l.take k) ++ [letter (l.getD k 0 % ((2 * g:Nat):Int)).toNat]:=by
 rw [jocb (d:=0) h]
 simp [jye]
def jgk (x:List Int) (w:World) (e:Ending) (w' : World):Prop:=∃ A c,e=.returned (.slice A x.length c)/\OwnI w.heap.size w' (.slice A x.length c) x/\Below w.heap.size w w'
set_option maxRecDepth 100000 in
set_option maxHeartbeats 1000000 in
theorem jvu (w:World) (v:Value) (l:List Int) (g:Nat) (h:jma w v l) (hg:1<=g/\g<=1000) (hl:l.length<=1000000):Calls Try.prog 47 #[v,.int .i64 (g:Int)] w (jgk (jye g l) w):=by
 obtain ⟨A,c,rfl,h1,h2,h3⟩:=h.open_
 have HL:=Lib.hid h3
 have HF:=Lib.hid h.2
 have h0:OwnI w.heap.size w (.slice none 0 0) []:=World.ownsRow_nil _ _ _ _
 have H0:=Lib.hid h0
 have hg0:(0:Int)<=(g:Int):=Int.natCast_nonneg _
 have hg1:(g:Int)<=1000:=by omega
 have hgg:2 * (g:Int)=((2 * g:Nat):Int):=by omega
 have HGG:=Lib.hid hgg
 clear h h3 h0 hgg
 unfold jgk
 go_enter Try.func47,Try.ntmps47
 go_wp2_with fail
 go_loopw [5,6] (fun so i wr=>∃ k:Nat,i=.int .i64 k/\k<=l.length/\∃ A c,so=.slice A k c/\Hid (OwnI w.heap.size wr so (jye g (l.take k)))/\Hid (Below w.heap.size w wr)) (fun _ i _=>l.length - (intOf i).toNat)
 case atStart=>exact ⟨0,rfl,by omega,none,0,rfl,H0,Lib.hid (Below.refl _ _)⟩
 case round =>
   clear H0
   obtain ⟨k,rfl,hk,A2,c2,rfl,HO,HB⟩:=hrel
   have hk0:(0:Int)<=(k:Int):=Int.natCast_nonneg _
   by_cases hlt:k < l.length
   · have hlt' : (k:Int) < (l.length:Int):=by omega
     obtain ⟨b,o,rfl,hcc⟩:=HL.out (by omega)
     have hu0:=hcc k hlt
     have hu:=(HB.out.cell (p:=⟨b,o + k,none⟩) (World.block_lt_of_cell? w _ hu0)).trans hu0
     have HW:=Lib.hid (jdx (g:=g) hlt)
     have hm0:=Int.emod_nonneg (l.getD k 0) (show ((2 * g:Nat):Int) ≠ 0 by omega)
     have hm1:=Int.emod_lt_of_pos (l.getD k 0) (show (0:Int) < ((2 * g:Nat):Int) by omega)
     have HT:Hid (∀ W,Calls Try.prog 67 #[.int .i64 (l.getD k 0),.int .i64 (2 * (g:Int))] W fun e w'=>e=.returned (.int .i64 ((l.getD k 0 % ((2 * g:Nat):Int)).toNat:Nat))/\w'=W):=Lib.hid fun W=>by
       rw [HGG.out,Int.toNat_of_nonneg hm0]
       exact jpb W _ (2 * g) (by omega)
     have HLT:Hid (∀ W,Calls Try.prog 69 #[.int .i64 ((l.getD k 0 % ((2 * g:Nat):Int)).toNat:Nat)] W fun e w'=>e=.returned (.int .i64 (letter (l.getD k 0 % ((2 * g:Nat):Int)).toNat))/\w'=W):=Lib.hid fun W=>jyv W _ (by omega)
     have hol:(jye g (l.take k)).length=k:=by rw [jxf,List.length_take]; omega
     obtain ⟨A',c',w',hr,ho,hgr,hw⟩:=jyh 25 25 Try.underlying25 wr w.heap.size _ _ HO.out (letter (l.getD k 0 % ((2 * g:Nat):Int)).toNat) (by omega) HB.out.size
     rw [hol] at hr ho
     rw [<- HW.out] at ho
     have HR:=Lib.hid hr
     have HO':=Lib.hid ho
     have HB' : Hid (Below w.heap.size w w'):=Lib.hid (HB.out.grown hgr HB.out.size fun r hr=>(jga HO.out r hr).1)
     clear hr ho hw hcc hu0 hgr HW hol hm0 hm1
     generalize (l.getD k 0 % ((2 * g:Nat):Int)).toNat=n at *
     generalize letter n=z at *
     generalize l.getD k 0=x at *
     go_wp2_with (first
       | (go_at_call 67; (refine (HT.out _).mono ?_); rintro e w1 ⟨rfl,rfl⟩)
       | (go_at_call 69; (refine (HLT.out _).mono ?_); rintro e w1 ⟨rfl,rfl⟩)
       | ((with_reducible refine jea 23 ?_); refine jca rfl (jnf (.tmp 13) (.tmp 22) 25 rfl rfl rfl HR.out) ?_))
     go_roundw
     case rel=>exact ⟨k + 1,by go_num,by omega,_,_,rfl,HO',HB'⟩
     case measure=>simp [intOf]; omega
   · obtain rfl:k=l.length:=by omega
     have ho:=HO.out
     rw [List.take_of_length_le (Nat.le_refl _)] at ho
     have HE:Hid (∃ A c,Ending.returned (.slice A2 l.length c2)=.returned (.slice A (jye g l).length c)/\OwnI w.heap.size wr (.slice A (jye g l).length c) (jye g l)/\Below w.heap.size w wr):=Lib.hid ⟨A2,c2,by rw [jxf],by rw [jxf]; exact ho,HB.out⟩
     clear ho
     go_wp2_with fail
     go_ret
     exact HE.out
end Go.Proofs
namespace Go.Proofs
open Go.RowKit Go.Shelf Go.Proofs.Ct Go.Maps
theorem jzy:Try.prog.underlying 24=some (.slice (Try.prog.elem 24)):=by kernel_rfl
theorem jzab {o:Oper} {a:Act} {w:World} (x y:Operand) (A:Option Addr) (n c k:Nat) (ho:o.op=.slice 24 x (some y) none none) (hx:a.eval x=.slice A n c) (hy:a.eval y=.int .i64 (k:Int)) (hk:k<=n):(execOp a.eval o).run Try.prog w=.ok (.value (sliced A k n c 1)) w:=by
 have hu:=jzy
 have hs:(sizeOf (Try.prog.elem 24)).run Try.prog w=.ok 1 w:=by kernel_rfl
 unfold execOp
 simp only [ho,hx,hy,Option.map_none,Option.map_some,Sem.run_bind,run_sliceAt_slice w 24 _ _ _ _ hu,run_slice_l w 24 A n c hu .i64 (k:Int) (by omega) (by omega)]
 simp [hs]
theorem jhv {o:Oper} {a:Act} {w:World} (x y z:Operand) (A:Option Addr) (n c k h:Nat) (ho:o.op=.slice 24 x (some y) (some z) none) (hx:a.eval x=.slice A n c) (hy:a.eval y=.int .i64 (k:Int)) (hz:a.eval z=.int .i64 (h:Int)) (hk:k<=h) (hc:h<=c):(execOp a.eval o).run Try.prog w=.ok (.value (sliced A k h c 1)) w:=by
 have hu:=jzy
 have hs:(sizeOf (Try.prog.elem 24)).run Try.prog w=.ok 1 w:=by kernel_rfl
 unfold execOp
 simp only [ho,hx,hy,hz,Option.map_none,Option.map_some,Sem.run_bind,run_sliceAt_slice w 24 _ _ _ _ hu,run_slice_lh w 24 A n c hu .i64 .i64 (k:Int) (h:Int) (by omega) (by omega) (by omega)]
 simp [hs]
theorem jpg {w:World} {A:Option Addr} {c k h:Nat} {l:List Int} (hI:jma w (.slice A l.length c) l) (hk:k<=h) (hh:h<=l.length):∃ A',sliced A k h c 1=.slice A' (h - k) (c - k)/\jma w (.slice A' (h - k) (c - k)) ((l.take h).drop k):=by
 obtain ⟨⟨A0,n,cap,e,h1,h2,h3,h4⟩,hf⟩:=hI
 obtain ⟨rfl,rfl,rfl⟩:=Value.slice.inj e
 refine ⟨_,rfl,⟨_,_,_,rfl,by simp [ints]; omega,by omega,by omega,fun hp => ?_⟩,fun y hy=>hf y (List.mem_of_mem_take (List.mem_of_mem_drop hy))⟩
 obtain ⟨b,off,rfl,hr⟩:=h4 (by omega)
 refine ⟨b,off + k, ?_,fun j v hj => ?_⟩
 · rw [if_neg (by omega),Nat.mul_one]
   exact congrArg some (Addr.add_mid b off k)
 · have hj' : (ints l)[k + j]?=some v:=by
     simp only [ints,List.getElem?_map,List.getElem?_drop,List.getElem?_take] at hj ⊢
     split at hj
     · exact hj
     · simp at hj
   have:=hr (k + j) v hj'
   rwa [show off + k + j=off + (k + j) by omega]
def jte (g most:Nat):Nat->List Int->List W
 | 0,_ => []
 | _ + 1, [] => []
 | f + 1,x :: l=>jye g (l.take (min (x % ((most + 1:Nat):Int)).toNat l.length)) :: jte g most f (l.drop (min (x % ((most + 1:Nat):Int)).toNat l.length))
def jqk (g most:Nat) (l:List Int):List W:=jte g most l.length l
theorem jbx (g most f:Nat):jte g most f [] = []:=by cases f <;> rfl
theorem jiy {g:Nat} (hg:1<=g/\g<=400) (l:List Int):Fits (jye g l):=fun x hx=>by
 obtain ⟨y,-,rfl⟩:=List.mem_map.1 hx
 have h1:=Int.emod_nonneg y (show ((2 * g:Nat):Int) ≠ 0 by omega)
 have h2:=Int.emod_lt_of_pos y (show (0:Int) < ((2 * g:Nat):Int) by omega)
 have:=jfj (c:=(y % ((2 * g:Nat):Int)).toNat) (by omega)
 omega
theorem jfib {o:Oper} {a:Act} {w:World} (x y:Operand) (i j z:Int) (ho:o.op=.call { callee:=.builtin .min,args := #[x,y],argTypes := #[3,3] }) (hx:a.eval x=.int .i64 i) (hy:a.eval y=.int .i64 j) (hz:z=min i j):(execOp a.eval o).run Try.prog w=.ok (.value (.int .i64 z)) w:=by
 have e:(if j < i then j else i)=z:=by rw [hz]; split <;> omega
 unfold execOp
 simp only [ho,resolve,invoke,builtin,Sem.run_bind,Sem.run_pure,Result.andThen_ok,List.map_toArray,List.map_cons,List.map_nil,hx,hy,run_min_int2,e]
def jfm (x:List W) (w:World) (e:Ending) (w' : World):Prop:=(∃ A c,e=.returned (.slice A x.length c)/\TabB w.heap.size w' (.slice A x.length c) x)/\Below w.heap.size w w'
set_option maxRecDepth 100000 in
set_option maxHeartbeats 2000000 in
theorem jer (w:World) (v:Value) (l:List Int) (g most:Nat) (h:jma w v l) (hg:1<=g/\g<=400) (hm:most<=1000) (hl:l.length<=100000):Calls Try.prog 135 #[v,.int .i64 (g:Int),.int .i64 (most:Int)] w (jfm (jqk g most l) w):=by
 obtain ⟨A,c,rfl,h1,h2,h3⟩:=h.open_
 have HI:=Lib.hid h
 have hot:=OutSt.nil 25 (Below.refl w.heap.size w)
 have HOT:=Lib.hid hot
 have hg0:(0:Int)<=(g:Int):=Int.natCast_nonneg _
 have hm0:(0:Int)<=(most:Int):=Int.natCast_nonneg _
 have hm1:(most:Int)<=1000:=by omega
 have HW0:Hid (jqk g most l = [] ++ jte g most l.length l):=Lib.hid rfl
 unfold jfm
 generalize hX:jqk g most l=X at *
 have hln:l.length + 0<=100000:=by omega
 clear h h3 hot hX
 go_enter Try.func135,Try.ntmps135
 go_wp2_with fail
 go_loopw [0,7] (fun sl so wr=>∃ (l2:List Int) (f m:Nat),(∃ A c,sl=.slice A l2.length c/\c<=9223372036854775807/\Hid (jma w (.slice A l2.length c) l2))/\l2.length<=f/\l2.length + m<=100000/\∃ F A c,so=.slice A m c/\∃ rows,Hid (OutSt 25 F w wr (.slice A m c) rows)/\Hid (rows.length=m)/\Hid (X=rows ++ jte g most f l2)) (fun sl _ _=>match sl with | .slice _ n _=>n | _=>0)
 case atStart=>exact ⟨l,l.length,0,⟨_,_,rfl,h2,HI⟩,Nat.le_refl _,hln,_,none,0,rfl, [],HOT,Lib.hid rfl,HW0⟩
 case round =>
   clear HOT HI HW0
   obtain ⟨l2,f,m,⟨A1,c1,rfl,hc1,HI⟩,hf,hlm,F,A2,c2,rfl,rows,HS,HRL,HX⟩:=hrel
   cases l2 with
   | nil =>
     have HE:Hid (rows=X):=Lib.hid (by have:=HX.out; rw [jbx,List.append_nil] at this; exact this.symm)
     have HT:Hid (∃ A c,Ending.returned (.slice A2 m c2)=.returned (.slice A X.length c)/\TabB w.heap.size wr (.slice A X.length c) X):=Lib.hid (by
       have h1:=HS.out.tabB
       rw [<- HE.out,HRL.out]
       exact ⟨_,_,rfl,h1⟩)
     have HB:=Lib.hid HS.out.below
     have hlen:(([]:List Int).length:Int)=0:=rfl
     go_wp2_with fail
     go_ret
     exact ⟨HT.out,HB.out⟩
   | cons x l3 =>
     cases f with
     | zero=>simp at hf
     | succ f =>
       have hTN:x % ((most + 1:Nat):Int)=((x % ((most + 1:Nat):Int)).toNat:Int):=(Int.toNat_of_nonneg (Int.emod_nonneg x (by omega))).symm
       have hTB:=Int.emod_lt_of_pos x (show (0:Int) < ((most + 1:Nat):Int) by omega)
       have HTN:Hid (∀ W,Calls Try.prog 67 #[.int .i64 x,.int .i64 ((most:Int) + 1)] W fun e w'=>e=.returned (.int .i64 ((x % ((most + 1:Nat):Int)).toNat:Int))/\w'=W):=Lib.hid fun W=>by
         rw [<- hTN,show (most:Int) + 1=((most + 1:Nat):Int) by omega]
         exact jpb W x (most + 1) (by omega)
       have hstep:jte g most (f + 1) (x :: l3)=jye g (l3.take (min (x % ((most + 1:Nat):Int)).toNat l3.length)) :: jte g most f (l3.drop (min (x % ((most + 1:Nat):Int)).toNat l3.length)):=rfl
       have HX1:Hid (X=rows ++ (jye g (l3.take (min (x % ((most + 1:Nat):Int)).toNat l3.length)) :: jte g most f (l3.drop (min (x % ((most + 1:Nat):Int)).toNat l3.length)))):=Lib.hid (by rw [<- hstep]; exact HX.out)
       generalize htz:(x % ((most + 1:Nat):Int)).toNat=tz at *
       have htm:tz<=most:=by omega
       clear htz hTN hTB hstep HX
       have hll:(x :: l3).length=l3.length + 1:=rfl
       rw [hll] at HI hlm hf
       obtain ⟨n,hn⟩ : ∃ n,n=min tz l3.length:=⟨_,rfl⟩
       rw [<- hn] at HX1
       have hnl:n<=l3.length:=by omega
       have HN:Hid ((n:Int)=min (tz:Int) (l3.length:Int)):=Lib.hid (by omega)
       clear hn
       have hI:jma w (.slice A1 (x :: l3).length c1) (x :: l3):=HI.out
       obtain ⟨A9,c9,e9,hq1,hq2,hq3⟩:=hI.open_
       obtain ⟨rfl,-,rfl⟩:=Value.slice.inj e9
       obtain ⟨b,o,rfl,hcc⟩:=hq3 (by simp)
       have hx0:=hcc 0 (by simp)
       have hxc:=(HS.out.below.cell (p:=⟨b,o + 0,none⟩) (World.block_lt_of_cell? w _ hx0)).trans hx0
       have hxc' : wr.cell? ⟨b,o,none⟩=some (.int .i64 x):=hxc
       obtain ⟨A3,hs1,hi1⟩:=jpg (k:=1) (h:=1 + n) hI (by omega) (by simp; omega)
       obtain ⟨A4,hs2,hi2⟩:=jpg (k:=1 + n) (h:=l3.length + 1) hI (by omega) (by simp)
       have e1:((x :: l3).take (1 + n)).drop 1=l3.take n:=by rw [Nat.add_comm]; rfl
       have e2:((x :: l3).take (l3.length + 1)).drop (1 + n)=l3.drop n:=by
         rw [show l3.length + 1=(x :: l3).length from rfl,List.take_length,Nat.add_comm]; rfl
       have e3:l3.length + 1 - (1 + n)=(l3.drop n).length:=by rw [List.length_drop]; omega
       have e4:1 + n - 1=n:=by omega
       rw [e1] at hi1
       rw [e2,e3] at hi2
       rw [e4] at hi1 hs1
       rw [e3] at hs2
       have hcl:l3.length + 1<=c1:=hq1
       have HI2:=Lib.hid hi2
       have HWO:Hid (Calls Try.prog 47 #[.slice A3 n (c1 - 1),.int .i64 (g:Int)] wr (jgk (jye g (l3.take n)) wr)):=Lib.hid (jvu wr _ (l3.take n) g (jie.below hi1 HS.out.below) (by omega) (by rw [List.length_take]; omega))
       have HFW:=Lib.hid (jiy hg (l3.take n))
       have HL4:Hid ((l3.drop n).length<=l3.length):=Lib.hid (by rw [List.length_drop]; omega)
       unfold jgk at HWO
       generalize l3.take n=l5 at *
       generalize l3.drop n=l4 at *
       generalize jye g l5=wd at *
       have hn0:(0:Int)<=(n:Int):=Int.natCast_nonneg _
       have hnI:(n:Int)<=(l3.length:Int):=by omega
       have hlI:(l3.length:Int)<=100000:=by omega
       have htI:(tz:Int)<=1000:=by omega
       have ht0:(0:Int)<=(tz:Int):=Int.natCast_nonneg _
       clear hcc hx0 hxc hi1 hi2 e1 e2 e4 hI e9 hq3 hll HI
       go_wp2_with (first
         | (go_at_call 67; (refine (HTN.out _).mono ?_); rintro e w1 ⟨rfl,rfl⟩)
         | ((with_reducible refine jea 21 ?_); refine jca rfl (jfib (.tmp 17) (.tmp 20) _ _ (n:Int) rfl rfl rfl (by have:=HN.out; omega)) ?_)
         | ((with_reducible refine jea 26 ?_); refine jca rfl (jhv (.tmp 23) (.const (.int .i64 1)) (.tmp 25) _ (l3.length + 1) c1 1 (1 + n) rfl rfl rfl rfl (by omega) (by omega)) ?_; rw [hs1])
         | (go_at_call 47; (refine HWO.out.mono ?_); rintro e w2 ⟨A5,c5,rfl,ho,hb⟩
            obtain ⟨A8,c8,w8,hr8,hS8⟩:=(HS.out.with_row hb ho).done (by decide) Try.underlying31 jyeb HFW.out (by rw [HRL.out]; omega)
            rw [HRL.out] at hr8 hS8
            have HR8:=Lib.hid hr8
            have HS8:=Lib.hid hS8
            clear hr8 hS8 ho hb)
         | ((with_reducible refine jea 30 ?_); refine jca rfl (jnf (.tmp 22) (.tmp 29) 31 rfl rfl rfl HR8.out) ?_)
         | ((with_reducible refine jea 34 ?_); refine jca rfl (jzab (.tmp 31) (.tmp 33) _ (l3.length + 1) c1 (1 + n) rfl rfl rfl (by omega)) ?_; rw [show sliced (some ⟨b,o,none⟩) (1 + n) (l3.length + 1) c1 1=_ from hs2]))
       go_roundw
       case rel=>exact ⟨l4,f,m + 1,⟨_,_,rfl,by omega,HI2⟩,by have:=HL4.out; omega,by have:=HL4.out; omega,_,_,_,rfl,rows ++ [wd],HS8,Lib.hid (by rw [List.length_append,HRL.out]; rfl),Lib.hid (by rw [HX1.out,List.append_assoc]; rfl)⟩
       case measure=>have:=HL4.out; simp; omega
end Go.Proofs
namespace Go.Proofs
open Go.RowKit Go.Shelf Go.Proofs.Ct Go.Maps
theorem jnab {w:World} {A:Option Addr} {c h:Nat} {l:List W} (hT:Tab w (.slice A l.length c) l) (hh:h<=l.length):∃ A',sliced A 0 h c 1=.slice A' h c/\Tab w (.slice A' h c) (l.take h):=by
 obtain ⟨vs,⟨A0,n,cap,e,h1,h2,h3,h4⟩,hl,hr⟩:=hT
 obtain ⟨rfl,rfl,rfl⟩:=Value.slice.inj e
 refine ⟨_,rfl,vs.take h,⟨_,h,c,rfl,by rw [List.length_take]; omega,by omega,h3,fun hp => ?_⟩,by rw [List.length_take,List.length_take]; omega,fun i hi => ?_⟩
 · obtain ⟨b,off,rfl,hr'⟩:=h4 (by omega)
   refine ⟨b,off, ?_,fun j v hj=>hr' j v ?_⟩
   · rw [if_neg (by omega)]
     exact congrArg some (Addr.add_mid b off 0)
   · rw [List.getElem?_take] at hj
     split at hj
     · exact hj
     · cases hj
 · rw [List.length_take] at hi
   obtain ⟨u,hu,hx⟩:=hr i (by omega)
   refine ⟨u,by rw [List.getElem?_take,if_pos (by omega)]; exact hu, ?_⟩
   have:(l.take h).getD i []=l.getD i []:=by
     rw [List.getD_eq_getElem?_getD,List.getElem?_take,if_pos (by omega),List.getD_eq_getElem?_getD]
   rw [this]
   exact hx
theorem jjx {base:Nat} {w:World} {A:Option Addr} {c h:Nat} {l:List W} (hT:TabB base w (.slice A l.length c) l) (hh:h<=l.length):∃ A',sliced A 0 h c 1=.slice A' h c/\TabB base w (.slice A' h c) (l.take h) :=
 ⟨_,rfl,fun w' hw=>by
   obtain ⟨A',e,ht⟩:=jnab (hT w' hw) hh
   show Tab w' (sliced A 0 h c 1) _
   rw [e]
   exact ht⟩
def powW (x:List Int):Nat->List Int
 | 0 => []
 | n + 1=>powW x n ++ x
theorem jcq (x:List Int):∀ n,(powW x n).length=n * x.length
 | 0=>by simp [powW]
 | n + 1=>by rw [powW,List.length_append,jcq x n,Nat.succ_mul]
set_option maxRecDepth 100000 in
set_option maxHeartbeats 1000000 in
theorem jlv (w:World) (v:Value) (x:List Int) (n:Nat) (h:jma w v x) (hn:n<=1000) (hx:x.length<=100):Calls Try.prog 136 #[v,.int .i64 (n:Int)] w (jgk (powW x n) w):=by
 obtain ⟨A,c,rfl,h1,h2,-⟩:=h.open_
 have HI:=Lib.hid h
 have h0:OwnI w.heap.size w (.slice none 0 0) []:=World.ownsRow_nil _ _ _ _
 have H0:Hid (OwnI w.heap.size w (.slice none (powW x 0).length 0) (powW x 0)):=Lib.hid h0
 have hn0:(0:Int)<=(n:Int):=Int.natCast_nonneg _
 have hn1:(n:Int)<=1000:=by omega
 have HLN:Hid (∀ k,k<=n->(powW x k).length<=100000):=Lib.hid fun k hk=>by
   rw [jcq]
   exact Nat.le_trans (Nat.mul_le_mul (Nat.le_trans hk hn) hx) (by omega)
 have HXL:=Lib.hid hx
 clear h h0 hx
 unfold jgk
 go_enter Try.func136,Try.ntmps136
 go_wp2_with fail
 go_loopw [5,6] (fun so i wr=>∃ k:Nat,i=.int .i64 k/\k<=n/\∃ m A c,so=.slice A m c/\Hid (m=(powW x k).length)/\Hid (OwnI w.heap.size wr (.slice A m c) (powW x k))/\Hid (Below w.heap.size w wr)) (fun _ i _=>n - (intOf i).toNat)
 case atStart=>exact ⟨0,rfl,by omega,0,none,0,rfl,Lib.hid rfl,H0,Lib.hid (Below.refl _ _)⟩
 case round =>
   clear H0
   obtain ⟨k,rfl,hk,m,A2,c2,rfl,HM,HO,HB⟩:=hrel
   have hk0:(0:Int)<=(k:Int):=Int.natCast_nonneg _
   by_cases hlt:k < n
   · have hlt' : (k:Int) < (n:Int):=by omega
     obtain ⟨A',c',w',hr,ho,hg,-⟩:=jxi 25 25 Try.underlying25 wr w.heap.size _ _ (powW x k) x HO.out (jie.below HI.out HB.out) (by have:=HLN.out k hk; omega) (by have:=HXL.out; omega) HB.out.size
     have HR:=Lib.hid hr
     have HO' : Hid (OwnI w.heap.size w' (.slice A' (powW x k ++ x).length c') (powW x (k + 1))):=Lib.hid ho
     have HB' : Hid (Below w.heap.size w w'):=Lib.hid (HB.out.grown hg HB.out.size fun r hr=>(jga HO.out r hr).1)
     have HM' : Hid ((powW x k ++ x).length=(powW x (k + 1)).length):=Lib.hid rfl
     clear hr ho hg
     generalize (powW x k ++ x).length=m' at *
     go_wp2_with ((with_reducible refine jea 14 ?_); refine jca rfl (jnf (.tmp 12) (.tmp 13) 25 rfl rfl rfl HR.out) ?_)
     go_roundw
     case rel=>exact ⟨k + 1,by go_num,by omega,_,_,_,rfl,HM',HO',HB'⟩
     case measure=>simp [intOf]; omega
   · obtain rfl:k=n:=by omega
     have HE:Hid (∃ A c,Ending.returned (.slice A2 m c2)=.returned (.slice A (powW x k).length c)/\OwnI w.heap.size wr (.slice A (powW x k).length c) (powW x k)/\Below w.heap.size w wr):=Lib.hid ⟨A2,c2,by rw [<- HM.out],by rw [<- HM.out]; exact HO.out,HB.out⟩
     go_wp2_with fail
     go_ret
     exact HE.out
theorem jjv {o:Oper} {a:Act} {w:World} (x y:Operand) (A:Option Addr) (n c h:Nat) (ho:o.op=.slice 31 x none (some y) none) (hx:a.eval x=.slice A n c) (hy:a.eval y=.int .i64 (h:Int)) (hc:h<=c):(execOp a.eval o).run Try.prog w=.ok (.value (sliced A 0 h c 1)) w:=by
 have hu:Try.prog.underlying 31=some (.slice (Try.prog.elem 31)):=by kernel_rfl
 have hs:(sizeOf (Try.prog.elem 31)).run Try.prog w=.ok 1 w:=by kernel_rfl
 unfold execOp
 simp only [ho,hx,hy,Option.map_none,Option.map_some,Sem.run_bind,run_sliceAt_slice w 31 _ _ _ _ hu,run_slice_h w 31 A n c hu .i64 (h:Int) (by omega) (by omega)]
 simp [hs]
def jnc (g m:Nat) (l:List Int):List W:=(jqk g 12 l).take m
def jqf (x:List W) (w:World) (e:Ending) (w' : World):Prop:=(∃ A c,e=.returned (.slice A x.length c)/\TabB w.heap.size w' (.slice A x.length c) x)/\Below w.heap.size w w'
theorem jhk (g most:Nat):∀ (f:Nat) (l:List Int),(jte g most f l).length<=f
 | 0,_=>Nat.le_refl _
 | _ + 1, []=>Nat.zero_le _
 | f + 1,x :: l=>by
   rw [jte,List.length_cons]
   have:=jhk g most f (l.drop (min (x % ((most + 1:Nat):Int)).toNat l.length))
   omega
end Go.Proofs
namespace Go.Proofs
open Go.RowKit Go.Shelf Go.Proofs.Ct Go.Maps
structure ImgS (w0 wr:World) (B g:Nat) (f:Nat->List Int) (vs:Nat->Value):Prop where
 below:Below w0.heap.size w0 wr
 ge:w0.heap.size<=B
 blk:∃ C,wr.heap[B]?=some (.cells C 24 (0,0))/\∀ c,c < g->C[c]?=some (vs c)
 row:∀ c,c < g->OwnI w0.heap.size wr (vs c) (f c)
 ap:∀ c d,c < g->d < g->c ≠ d->∀ r,(vs c).ownBlock=some r->(vs d).ownBlock ≠ some r
section
variable {w0 wr:World} {B g:Nat} {f:Nat->List Int} {vs:Nat->Value}
end
end Go.Proofs
