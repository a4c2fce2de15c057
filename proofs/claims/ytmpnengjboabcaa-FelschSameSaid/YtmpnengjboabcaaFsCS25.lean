/- (*cosets).squeeze; What Felsch's strategy answers, plainly. -/
import Derived.Test.YtmpnengjboabcaaFsCS24
import Derived.Test.YtmpnengjboabcaaFsCS12
namespace Go.Proofs.Ct
def nmS (s:St) (k:Nat):List Int:=(List.range s.t.length).map fun i=>if i < k then (num s i:Int) else 0
theorem jid (s:St) (k:Nat):(nmS s k).length=s.t.length:=by simp [nmS]
theorem jnl (s:St) (k:Nat) {i:Nat} (h:i < s.t.length):(nmS s k).getD i 0=if i < k then (num s i:Int) else 0:=by
 unfold nmS
 simp [List.getD_eq_getElem?_getD,h]
theorem jrgb (s:St):nmS s 0=List.replicate s.t.length 0:=jbe (d:=0) (by simp [jid]) fun i hi=>by
 rw [jid] at hi
 rw [jnl s 0 hi,if_neg (by omega)]
 simp [List.getD_eq_getElem?_getD,hi]
theorem jsgb {s:St} {k:Nat} (h:k < s.t.length):nmS s (k + 1)=(nmS s k).set k (num s k):=jbe (d:=0) (by simp [jid]) fun i hi=>by
 rw [jid] at hi
 rw [jnl s _ hi,jzj,jid]
 by_cases e:k=i
 · subst e; rw [if_pos (by omega),if_pos ⟨rfl,h⟩]
 · rw [if_neg (fun h' : k=i/\k < s.t.length=>e h'.1),jnl s _ hi]
   by_cases h2:i < k
   · rw [if_pos h2,if_pos (by omega)]
   · rw [if_neg h2,if_neg (by omega)]
def sqF (s:St) (v:Int):Int:=if 0<=v then (num s v.toNat:Int) else v
theorem jygb {f:Int->Int} {x:List Int} {c:Nat} (_hc:c < x.length) (h:f (x.getD c 0)=x.getD c 0):jsf f x (c + 1)=jsf f x c:=jbe (d:=0) (by simp [jef]) fun i hi=>by
 rw [jef] at hi
 rw [jwj f x _ hi,jwj f x _ hi]
 by_cases e:i=c
 · subst e; rw [if_pos (Nat.lt_succ_self _),if_neg (Nat.lt_irrefl _),h]
 · by_cases h2:i < c
   · rw [if_pos h2,if_pos (by omega)]
   · rw [if_neg h2,if_neg (by omega)]
end Go.Proofs.Ct
namespace Go.Proofs
open Go.RowKit Go.Shelf Go.Proofs.Ct Go.Maps
theorem jas {base n:Nat} {W:World} {v:Value} {xs:List Value} (h:W.ownsRow base 24 1 v n xs) (hn:0 < n):∃ g c,v=.slice (some ⟨g,0,none⟩) n c/\base<=g/\g < W.heap.size/\n<=c/\(∃ C,W.heap[g]?=some (.cells C 24 (0,0)))/\∀ k u,xs[k]?=some u->W.cell? ⟨g,k,none⟩=some u:=by
 obtain ⟨hl,h⟩:=h
 rcases h with ⟨-,h0⟩ | ⟨g,cap,cur,rfl,hb,hc,h1,hm,hs,ht⟩
 · omega
 · refine ⟨g,cap,rfl,hb,(Array.getElem?_eq_some_iff.1 hc).1,h1,⟨_,hc⟩,fun k u hu => ?_⟩
   rw [cell_of_row _ _ _ _ _ _ hc]
   have h3:(cur.toList.take (n * 1))[k]?=some u:=by rw [ht]; exact hu
   rw [List.getElem?_take] at h3
   split at h3
   · simpa using h3
   · cases h3
def rowV (s:St) (bl cs:Nat->Nat) (x:Nat):Value:=.slice (some ⟨bl x,0,none⟩) (s.t.row x).length (cs x)
structure SqM (base:Nat) (s:St) (bl:Nat->Nat) (W1 wr:World) (R:Nat->List Int):Prop where
 below:Below base W1 wr
 keep:∀ k,k < W1.heap.size->(∀ i,i < (liv s).length->k ≠ bl ((liv s).getD i 0))->wr.heap[k]?=W1.heap[k]?
 row:∀ i,i < (liv s).length->XsAt wr (bl ((liv s).getD i 0)) (R i)
theorem SqM.congr {base:Nat} {s:St} {bl:Nat->Nat} {W1 wr:World} {R R' : Nat->List Int} (h:SqM base s bl W1 wr R) (he:∀ i,i < (liv s).length->R' i=R i):SqM base s bl W1 wr R':=⟨h.below,h.keep,fun i hi=>by rw [he i hi]; exact h.row i hi⟩
theorem SqM.set {base:Nat} {s:St} {bl:Nat->Nat} {W1 wr:World} {R:Nat->List Int} (h:SqM base s bl W1 wr R) (hb:∀ i,i < (liv s).length->base<=bl ((liv s).getD i 0)) (hinj:∀ i j,i < (liv s).length->j < (liv s).length->bl ((liv s).getD i 0)=bl ((liv s).getD j 0)->i=j) {j c:Nat} (hj:j < (liv s).length) (hc:c < (R j).length) (z:Int) :
   SqM base s bl W1 (wr.setCell ⟨bl ((liv s).getD j 0),c,none⟩ (.int .i64 z)) (fun i=>if i=j then (R j).set c z else R i):=by
 refine ⟨h.below.setCell (p:=⟨bl ((liv s).getD j 0),c,none⟩) (hb j hj) _,fun k hk hn => ?_,fun i hi => ?_⟩
 · exact (Below.heap_setCell wr ⟨bl ((liv s).getD j 0),c,none⟩ (.int .i64 z) k (hn j hj)).trans (h.keep k hk hn)
 · by_cases e:i=j
   · subst e
     simp only [if_true]
     exact (h.row i hi).set hc z
   · simp only [if_neg e]
     exact (h.row i hi).keep (Below.heap_setCell wr ⟨bl ((liv s).getD j 0),c,none⟩ (.int .i64 z) _ (fun e'=>e (hinj i j hi hj e')))
theorem jcgb (w:World) (s:St):XsAt (w.alloc (.cells (Array.replicate s.t.length (.int .i64 0)) 3)) w.heap.size (nmS s 0):=by
 refine ⟨_,heap_alloc_new w _,by simp [jid],fun k hk => ?_⟩
 rw [jid] at hk
 rw [jrgb]
 simp [List.getD_eq_getElem?_getD,hk]
def jrg (base:Nat) (s:St) (bl cs:Nat->Nat) (w:World) (e:Ending) (w' : World):Prop :=
 ∃ A c,e=.returned (.tuple #[.slice (some ⟨w.heap.size,0,none⟩) s.t.length s.t.length,.slice A (liv s).length c])/\XsAt w' w.heap.size (nmS s s.t.length)/\w'.ownsRow w.heap.size 24 1 (.slice A (liv s).length c) (liv s).length ((liv s).map (rowV s bl cs)) /\
   (∀ i,i < (liv s).length->XsAt w' (bl ((liv s).getD i 0)) (jsi s ((liv s).getD i 0)))/\(∀ k,k < w.heap.size->(∀ i,i < (liv s).length->k ≠ bl ((liv s).getD i 0))->w'.heap[k]?=w.heap[k]?)/\Below base w w'
set_option maxRecDepth 100000 in
set_option maxHeartbeats 1000000 in
theorem jih (K:Nat->Prop) (T:TypeId) (ex:List Value) (bl cs:Nat->Nat) (g m base b lim:Nat) (_hm:m=2 * g) (hg1:1<=g) (hg:g<=16) (w:World) (f:FS) (hR:Ct.Rest g f.s) (hS:StFB K T ex bl cs base b m lim w f) (hbw:base<=w.heap.size) (hn:f.s.t.length<=100000) (hn1:1<=f.s.t.length) :
   Calls Try.prog 148 #[.pointer (some ⟨b,0,none⟩)] w (jrg base f.s bl cs w):=by
 obtain ⟨s,ps⟩:=f
 simp only at *
 have HS:=Lib.hid hS
 obtain ⟨hb,P,vr,vp,vq,vk,hB,hC,hK,hF⟩:=hS
 simp only at *
 obtain ⟨gr,cr,rfl,hgb,hgl,hgc,-,hgcell⟩:=jas hC.out hn1
 have hc2:=hB.cells.2.2.1
 have HC2:Hid (∀ W,Below w.heap.size w W->W.cell? ⟨b,2,none⟩=some (.slice (some ⟨gr,0,none⟩) s.t.length cr)):=Lib.hid fun W h=>(h.cell (p:=⟨b,2,none⟩) hB.lt).trans hc2
 have HRC:Hid (∀ W x,Below w.heap.size w W->x < s.t.length->W.cell? ⟨gr,x,none⟩=some (rowV s bl cs x)):=Lib.hid fun W x h hx=>(h.cell (p:=⟨gr,x,none⟩) hgl).trans (hgcell x _ (by simp [hx,rowV]))
 have HROW:Hid (∀ i,i < s.t.length->base<=bl i/\XsAt w (bl i) (s.t.row i)/\(s.t.row i).length<=cs i/\cs i<=9223372036854775807):=Lib.hid hC.row
 have HINJ:=Lib.hid hC.inj
 have HR:=Lib.hid hR
 have hn0:(s.t.length:Int)<=1000000:=by omega
 have hn2:(0:Int)<=(s.t.length:Int):=Int.natCast_nonneg _
 have HR1:Hid ((Instr.makeSlice 24 (.int .i64 (s.t.length:Int)) (.int .i64 (s.t.length:Int))).run Try.prog w=.ok (.slice (some ⟨w.heap.size,0,none⟩) s.t.length s.t.length) (w.alloc (.cells (Array.replicate s.t.length (.int .i64 0)) 3))):=Lib.hid (jpt w _ (by omega))
 have HX1:=Lib.hid (jcgb w s)
 have HB1:Hid (Below w.heap.size w (w.alloc (.cells (Array.replicate s.t.length (.int .i64 0)) 3))):=Lib.hid ((Below.refl _ _).alloc (Nat.le_refl _) _)
 generalize w.alloc (.cells (Array.replicate s.t.length (.int .i64 0)) 3)=W1 at *
 have hrows1:=HC2.out W1 HB1.out
 have hrows0:=HC2.out w (Below.refl _ _)
 have HO0:Hid (W1.ownsRow w.heap.size 24 1 (.slice none (jcc s 0).length 0) (jcc s 0).length ((jcc s 0).map (rowV s bl cs))):=Lib.hid (World.ownsRow_nil _ _ _ _)
 clear hB hC hK hF hgcell hc2 hR hb hgb hgl
 go_enter Try.func148,Try.ntmps148
 go_wp2_with ((with_reducible refine jea 16 ?_); refine jca rfl (jkv 24 (.tmp 15) (.tmp 15) rfl rfl rfl HR1.out) ?_)
 go_loopw [5,22] (fun v i wr=>∃ (k:Nat) (A:Option Addr) (c:Nat),i=.int .i64 (k:Int)/\k<=s.t.length/\v=.slice A (jcc s k).length c/\Hid (XsAt wr w.heap.size (nmS s k))/\Hid (wr.ownsRow w.heap.size 24 1 v (jcc s k).length ((jcc s k).map (rowV s bl cs)))/\Hid (Below w.heap.size w wr)) (fun _ i _=>s.t.length - (intOf i).toNat)
 case atStart=>exact ⟨0,none,0,rfl,Nat.zero_le _,rfl,HX1,HO0,HB1⟩
 case round =>
   clear HX1 HB1 HO0 hrows1 hrows0
   obtain ⟨k,A,c,rfl,hk,rfl,HX,HO,HB⟩:=hrel
   have hk0:(0:Int)<=(k:Int):=Int.natCast_nonneg _
   have hlk:=jvf s k
   have hlk0:(0:Int)<=((jcc s k).length:Int):=Int.natCast_nonneg _
   have hlk1:((jcc s k).length:Int)<=1000000:=by omega
   by_cases hlt:k < s.t.length
   · have hltI:(k:Int) < (s.t.length:Int):=by omega
     have hcx:=HX.out.cell (k:=k) (by rw [jid]; exact hlt)
     have hfx:=HX.out.frozen k
     have HX2:Hid (XsAt (wr.setCell ⟨w.heap.size,k,none⟩ (.int .i64 ((jcc s k).length:Int))) w.heap.size (nmS s (k + 1))):=Lib.hid (by
       rw [jsgb hlt]
       exact HX.out.set (k:=k) (by rw [jid]; exact hlt) (num s k))
     have HB2:Hid (Below w.heap.size w (wr.setCell ⟨w.heap.size,k,none⟩ (.int .i64 ((jcc s k).length:Int)))):=Lib.hid (HB.out.setCell (p:=⟨w.heap.size,k,none⟩) (Nat.le_refl _) _)
     have HO2:Hid ((wr.setCell ⟨w.heap.size,k,none⟩ (.int .i64 ((jcc s k).length:Int))).ownsRow w.heap.size 24 1 (.slice A (jcc s k).length c) (jcc s k).length ((jcc s k).map (rowV s bl cs))):=Lib.hid (jna HO.out fun r hr=>Below.heap_setCell wr ⟨w.heap.size,k,none⟩ _ r fun e=>by
       obtain ⟨-,C,hC⟩:=jga HO.out r hr
       have e' : r=w.heap.size:=e
       obtain ⟨C2,hC2,-⟩:=HX.out
       rw [e',hC2] at hC
       cases hC)
     have HAL:Hid (∀ W,Below w.heap.size w W->Calls Try.prog 198 #[.pointer (some ⟨b,0,none⟩),.int .i64 (k:Int)] W fun e w'=>e=.returned (.bool (decide (s.rp k=k)))/\w'=W):=Lib.hid fun W h=>jud K T ex bl cs base b m lim k W ⟨s,ps⟩ (HS.out.below h) hlt
     have hr0:=HC2.out _ HB2.out
     have hr1:=HRC.out _ k HB2.out hlt
     clear HX HO HB
     generalize hWk:wr.setCell ⟨w.heap.size,k,none⟩ (.int .i64 ((jcc s k).length:Int))=Wk at *
     cases hal:decide (s.rp k=k) with
     | true =>
       have HLS:Hid (jcc s (k + 1)=jcc s k ++ [k]):=Lib.hid (by rw [jpd,if_pos (of_decide_eq_true hal)])
       obtain ⟨A',c',w',hr,ho,hg',hw⟩:=jgo (t:=22) (ty:=22) Try.underlying22 jbl rfl (by omega) Wk w.heap.size (.slice A (jcc s k).length c) (jcc s k).length _ HO2.out (rowV s bl cs k) rfl (by omega) HB2.out.size
       have HRUN:=Lib.hid hr
       have hll:(jcc s (k + 1)).length=(jcc s k).length + 1:=by rw [HLS.out,List.length_append]; rfl
       have HO3:Hid (w'.ownsRow w.heap.size 24 1 (.slice A' (jcc s (k + 1)).length c') (jcc s (k + 1)).length ((jcc s (k + 1)).map (rowV s bl cs))):=Lib.hid (by rw [hll,HLS.out,List.map_append]; exact ho)
       have HX3:Hid (XsAt w' w.heap.size (nmS s (k + 1))):=Lib.hid (HX2.out.grown hg' fun e=>by
         obtain ⟨-,C,hC⟩:=jga HO2.out _ e
         obtain ⟨C2,hC2,-⟩:=HX2.out
         rw [hC2] at hC
         cases hC)
       have HB3:Hid (Below w.heap.size w w'):=Lib.hid (HB2.out.grown hg' HB2.out.size fun r hr=>(jga HO2.out r hr).1)
       have HLL:=Lib.hid hll
       clear hr ho hg' hw hll
       unfold rowV at HRUN hr1
       go_wp2_with (first
         | (go_at_call 198; (with_reducible refine (HAL.out _ HB2.out).mono ?_); rintro E w2 ⟨rfl,rfl⟩; rw [hal]; clear hWk)
         | ((with_reducible refine jea 42 ?_); refine jca rfl (jnf (.tmp 33) (.tmp 41) 22 rfl rfl rfl HRUN.out) ?_))
       go_roundw
       case rel=>exact ⟨k + 1,A',c',by go_num,by omega,by rw [HLL.out],HX3,Lib.hid (by rw [<- HLL.out]; exact HO3.out),HB3⟩
       case measure=>simp [intOf]; omega
     | false =>
       have HLS:Hid (jcc s (k + 1)=jcc s k):=Lib.hid (by rw [jpd,if_neg (of_decide_eq_false hal)])
       go_wp2_with (first
         | (go_at_call 198; (with_reducible refine (HAL.out _ HB2.out).mono ?_); rintro E w2 ⟨rfl,rfl⟩; rw [hal]; clear hWk))
       go_roundw
       case rel=>exact ⟨k + 1,A,c,by go_num,by omega,by rw [HLS.out],HX2,Lib.hid (by rw [HLS.out]; exact HO2.out),HB2⟩
       case measure=>simp [intOf]; omega
   · obtain rfl:k=s.t.length:=by omega
     rename World=>W2
     have HL:Hid (jcc s s.t.length=liv s):=Lib.hid rfl
     rw [HL.out] at HO hlk hlk0 hlk1
     have HLA:Hid (∀ i,i < (liv s).length->(liv s).getD i 0 < s.t.length/\s.rp ((liv s).getD i 0)=(liv s).getD i 0/\num s ((liv s).getD i 0)=i):=Lib.hid fun i hi=>jee hi
     have HJ:Hid (∀ i j,i < (liv s).length->j < (liv s).length->bl ((liv s).getD i 0)=bl ((liv s).getD j 0)->i=j):=Lib.hid fun i j hi hj h=>by
       have h1:=HLA.out i hi
       have h2:=HLA.out j hj
       have h3:=HINJ.out _ _ h1.1 h2.1 h
       rw [<- h1.2.2, <- h2.2.2,h3]
     have HBB:Hid (∀ i,i < (liv s).length->base<=bl ((liv s).getD i 0)/\bl ((liv s).getD i 0) < w.heap.size):=Lib.hid fun i hi=>by
       have h1:=HROW.out _ (HLA.out i hi).1
       exact ⟨h1.1,h1.2.1.lt⟩
     have HSQ:Hid (SqM base s bl W2 W2 (fun i=>if i < 0 then jsi s ((liv s).getD i 0) else s.t.row ((liv s).getD i 0))):=Lib.hid ⟨Below.refl _ _,fun _ _ _=>rfl,fun i hi=>by
       rw [if_neg (Nat.not_lt_zero _)]
       exact (HROW.out _ (HLA.out i hi).1).2.1.below HB.out⟩
     have hlv1:1<=(liv s).length:=by
       have:=(jog (s:=s) (x:=0) (by omega) (by have:=HR.out.inv.rle 0 (by omega); omega)).1
       omega
     obtain ⟨gA,cA,eA,hgA,-,-,-,hcA⟩:=jas HO.out (by omega)
     injection eA with e1 e2 e3
     subst e1; subst e3
     have HKW:Hid (∀ W R,SqM base s bl W2 W R->(∀ j,j < (liv s).length->W.cell? ⟨gA,j,none⟩=some (rowV s bl cs ((liv s).getD j 0)))/\XsAt W w.heap.size (nmS s s.t.length)):=Lib.hid fun W R h=>by
       have hz:w.heap.size < W2.heap.size:=HX.out.lt
       refine ⟨fun j hj => ?_,HX.out.keep (h.keep _ hz fun i hi e=>by have:=(HBB.out i hi).2; omega)⟩
       have h1:=hcA j (rowV s bl cs ((liv s).getD j 0)) (by simp [List.getD_eq_getElem?_getD,hj])
       have hgl:=World.block_lt_of_cell? W2 _ h1
       have h2:=h.keep gA hgl fun i hi e=>by have:=(HBB.out i hi).2; omega
       unfold World.cell? at h1 ⊢
       simp only [h2]
       exact h1
     have HXN:=HX
     have HON:=HO
     have HBN:=HB
     clear hlt hk HX HO HB e2 hcA
     go_wp2_with fail
     go_loopw [46] (fun i wr=>∃ j:Nat,i=.int .i64 (j:Int)/\j<=(liv s).length/\Hid (SqM base s bl W2 wr (fun i=>if i < j then jsi s ((liv s).getD i 0) else s.t.row ((liv s).getD i 0)))) (fun i _=>(liv s).length - (intOf i).toNat)
     case atStart=>exact ⟨0,rfl,Nat.zero_le _,HSQ⟩
     case round =>
       clear HSQ
       obtain ⟨j,rfl,hj,HSQ⟩:=hrel
       have hj0:(0:Int)<=(j:Int):=Int.natCast_nonneg _
       by_cases hlt:j < (liv s).length
       · have hjI:(j:Int) < ((liv s).length:Int):=by omega
         have hcr:=(HKW.out _ _ HSQ.out).1 j hlt
         obtain ⟨hxl,-,-⟩:=HLA.out j hlt
         have hrl:(s.t.row ((liv s).getD j 0)).length=2 * g:=HR.out.inv.len _ hxl
         have HRB:Hid (∀ c,c < 2 * g -> -1<=(s.t.row ((liv s).getD j 0)).getD c 0/\(s.t.row ((liv s).getD j 0)).getD c 0 < s.t.length):=Lib.hid fun c hc=>HR.out.inv.bd _ hxl c hc
         have HRL:=Lib.hid hrl
         have HSR:Hid (jsi s ((liv s).getD j 0)=(s.t.row ((liv s).getD j 0)).map (sqF s)):=Lib.hid rfl
         have HSQ3:Hid (SqM base s bl W2 wr (fun i=>if i=j then jsf (sqF s) (s.t.row ((liv s).getD j 0)) 0 else if i < j then jsi s ((liv s).getD i 0) else s.t.row ((liv s).getD i 0))):=Lib.hid (HSQ.out.congr fun i hi=>by
           by_cases e:i=j
           · subst e; rw [if_pos rfl,if_neg (Nat.lt_irrefl _),juz]
           · rw [if_neg e])
         have hg0:(1:Int)<=(g:Int):=by omega
         have hgI:(g:Int)<=16:=by omega
         unfold rowV at hcr
         rw [hrl] at hcr
         clear hrl hxl
         generalize hxx:(liv s).getD j 0=x at *
         have HXX:=Lib.hid hxx
         clear hxx
         go_wp2_with fail
         go_loopw [52] (fun i wr=>∃ c:Nat,i=.int .i64 (c:Int)/\c<=2 * g/\Hid (SqM base s bl W2 wr (fun i=>if i=j then jsf (sqF s) (s.t.row x) c else if i < j then jsi s ((liv s).getD i 0) else s.t.row ((liv s).getD i 0)))) (fun i _=>2 * g - (intOf i).toNat)
         case atStart=>exact ⟨0,rfl,Nat.zero_le _,HSQ3⟩
         case round =>
           clear HSQ3 HSQ hcr
           obtain ⟨c,rfl,hc,HSQ⟩:=hrel
           have hc0:(0:Int)<=(c:Int):=Int.natCast_nonneg _
           by_cases hcg:c < 2 * g
           · have hcI:(c:Int) < 2 * (g:Int):=by omega
             have hx:=HSQ.out.row j hlt
             simp only [if_true] at hx
             rw [HXX.out] at hx
             have hml:c < (jsf (sqF s) (s.t.row x) c).length:=by rw [jef,HRL.out]; exact hcg
             have hck:=hx.cell hml
             rw [jwj _ _ _ (by rw [HRL.out]; exact hcg),if_neg (Nat.lt_irrefl _)] at hck
             have hfk:=hx.frozen c
             obtain ⟨hb1,hb2⟩:=HRB.out c hcg
             obtain ⟨v,hv⟩ : ∃ v,v=(s.t.row x).getD c 0:=⟨_,rfl⟩
             rw [<- hv] at hck hb1 hb2
             have HSS:Hid (∀ z,SqM base s bl W2 (wr.setCell ⟨bl x,c,none⟩ (.int .i64 z)) (fun i=>if i=j then (jsf (sqF s) (s.t.row x) c).set c z else if i < j then jsi s ((liv s).getD i 0) else s.t.row ((liv s).getD i 0))):=Lib.hid fun z=>by
               have h1:=HSQ.out.set (fun i hi=>(HBB.out i hi).1) HJ.out hlt (by simp only [if_true]; exact hml) z
               rw [HXX.out] at h1
               refine h1.congr fun i hi => ?_
               by_cases e:i=j
               · subst e; simp only [if_true]
               · simp only [if_neg e]
             by_cases h0:0<=v
             · obtain ⟨y,rfl⟩ : ∃ y:Nat,v=(y:Int):=⟨v.toNat,by omega⟩
               have hyl:y < s.t.length:=by omega
               have hx2:=(HKW.out _ _ HSQ.out).2.cell (k:=y) (by rw [jid]; exact hyl)
               rw [jnl s _ hyl,if_pos hyl] at hx2
               have HMX:Hid (jsf (sqF s) (s.t.row x) (c + 1)=(jsf (sqF s) (s.t.row x) c).set c (num s y:Int)):=Lib.hid (by
                 rw [jxdb _ _ (by rw [HRL.out]; exact hcg), <- hv]
                 unfold sqF
                 rw [if_pos h0,Int.toNat_natCast])
               have HS5:=Lib.hid (HSS.out (num s y:Int))
               have hy0:(0:Int)<=(y:Int):=Int.natCast_nonneg _
               clear HSS hx hml hv hb1
               go_wp2_with fail
               go_roundw
               case rel=>exact ⟨c + 1,by go_num,by omega,Lib.hid (by rw [HMX.out]; exact HS5.out)⟩
               case measure=>simp [intOf]; omega
             · have HMX:Hid (jsf (sqF s) (s.t.row x) (c + 1)=jsf (sqF s) (s.t.row x) c):=Lib.hid (jygb (by rw [HRL.out]; exact hcg) (by rw [<- hv]; unfold sqF; rw [if_neg h0]))
               clear HSS hx hml hv
               go_wp2_with fail
               go_roundw
               case rel=>exact ⟨c + 1,by go_num,by omega,Lib.hid (by rw [HMX.out]; exact HSQ.out)⟩
               case measure=>simp [intOf]; omega
           · obtain rfl:c=2 * g:=by omega
             have HS6:Hid (SqM base s bl W2 wr (fun i=>if i < j + 1 then jsi s ((liv s).getD i 0) else s.t.row ((liv s).getD i 0))):=Lib.hid (HSQ.out.congr fun i hi=>by
               by_cases e:i=j
               · subst e; rw [if_pos rfl,if_pos (Nat.lt_succ_self _),HXX.out, <- HRL.out,jydb]; rfl
               · rw [if_neg e]
                 by_cases e2:i < j
                 · rw [if_pos e2,if_pos (by omega)]
                 · rw [if_neg e2,if_neg (by omega)])
             go_wp2_with fail
             go_roundw
             case rel=>exact ⟨j + 1,by go_num,by omega,HS6⟩
             case measure=>simp [intOf]; omega
       · obtain rfl:j=(liv s).length:=by omega
         go_wp2_with fail
         go_ret2
         have h:=HSQ.out
         refine ⟨_,_,rfl,(HKW.out _ _ h).2,jna HON.out fun r hr=>h.keep r (jwc HON.out hr) fun i hi e => ?_,fun i hi => ?_,fun k hk hn=>(h.keep k (Nat.lt_of_lt_of_le hk HBN.out.size) hn).trans (HBN.out.block k hk),(HBN.out.mono hbw).trans h.below⟩
         · have h1:=(jga HON.out r hr).1
           have h2:=(HBB.out i hi).2
           omega
         · have h1:=h.row i hi
           rwa [if_pos hi] at h1
end Go.Proofs
namespace Go.Proofs
open Go.RowKit Go.Shelf Go.Proofs.Ct Go.Maps
def jfd (g:Int) (rels sub:List W) (limit:Int):Tb × (Int × Int) × Int :=
 if jdc g rels sub limit ≠ 0 then ([],(0,0),jdc g rels sub limit) else
 match jgf (2 * g.toNat) limit.toNat rels sub with
 | none=>([],(0,0),12)
 | some f=>((stdE g (tabS f.s) 0).1,((f.s.t.length:Int),f.s.most),0)
theorem jly {g:Int} {rels sub:List W} {limit:Int} (h:jdc g rels sub limit ≠ 0):jfd g rels sub limit=([],(0,0),jdc g rels sub limit):=if_pos h
theorem jtn {g lim:Nat} {rels sub:List W} (h:jdc g rels sub lim=0) (h3:jgf (2 * g) lim rels sub=none):jfd g rels sub lim=([],(0,0),12):=by
 unfold jfd; rw [if_neg (by rw [h]; simp),Int.toNat_natCast,Int.toNat_natCast,h3]
theorem jsn {g lim:Nat} {rels sub:List W} {f:FS} (h:jdc g rels sub lim=0) (h3:jgf (2 * g) lim rels sub=some f):jfd g rels sub lim=((stdE g (tabS f.s) 0).1,((f.s.t.length:Int),f.s.most),0):=by
 unfold jfd; rw [if_neg (by rw [h]; simp),Int.toNat_natCast,Int.toNat_natCast,h3]
theorem jjs {g:Int} {rels sub:List W} {limit:Int} (h:jdc g rels sub limit=0):∃ gn lim:Nat,g=gn/\limit=lim/\1<=gn/\gn<=16/\rels.length<=100/\(∀ j,j < rels.length->jpk gn (rels.getD j [])/\(rels.getD j []).length<=4000)/\(∀ j,LOk gn (rels.getD j []))/\(∀ j,LOk gn (sub.getD j []))/\sub.length<=100/\1<=lim/\lim<=20000:=by
 unfold jdc at h
 split at h
 · next h1=>exact absurd h h1
 · next h1 =>
   obtain ⟨gn,rfl,hg1,hg16,hrl,hrg⟩:=jgg (Decidable.not_not.1 h1)
   rw [Int.toNat_natCast] at h
   split at h
   · cases h
   · next h2 =>
     unfold jhc at h2
     simp only [Bool.or_eq_true,decide_eq_true_eq,not_or] at h2
     obtain ⟨⟨⟨⟨h3,h4⟩,h5⟩,h6⟩,h7⟩:=h2
     have h5' : (sub.any fun w=>w.any (jxa gn))=false:=by simpa using h5
     refine ⟨gn,limit.toNat,rfl,by omega,hg1,hg16,hrl,hrg,fun j => ?_,fun j => ?_,by omega,by omega,by omega⟩
     rcases Nat.lt_or_ge j rels.length with hj | hj
     · exact (hrg j hj).1
     · rw [List.getD_eq_getElem?_getD,List.getElem?_eq_none hj]
       exact fun x hx=>by cases hx
     · rcases Nat.lt_or_ge j sub.length with hj | hj
       · exact jyo h5' j hj
       · rw [List.getD_eq_getElem?_getD,List.getElem?_eq_none hj]
         exact fun x hx=>by cases hx
theorem jokb {g:Nat} {s:St} (h:Ct.Rest g s) (hc:∀ r,r < s.t.length->s.rp r=r->∀ c,c < 2 * g->0<=s.t.at r c):(liv s).map (jsi s)=tabS s:=by
 unfold tabS
 refine List.map_congr_left fun x hx => ?_
 obtain ⟨i,hi,rfl⟩:=List.mem_iff_getElem.1 hx
 have h1:=jee (s:=s) hi
 rw [List.getD_eq_getElem?_getD,List.getElem?_eq_getElem hi] at h1
 simp only [Option.getD_some] at h1
 unfold jsi
 refine List.map_congr_left fun v hv => ?_
 obtain ⟨c,hcl,rfl⟩:=List.mem_iff_getElem.1 hv
 have h2:=hc _ h1.1 h1.2.1 c (by rw [<- h.inv.len _ h1.1]; exact hcl)
 unfold Tb.at at h2
 rw [List.getD_eq_getElem?_getD,List.getElem?_eq_getElem hcl] at h2
 exact if_pos h2
end Go.Proofs
