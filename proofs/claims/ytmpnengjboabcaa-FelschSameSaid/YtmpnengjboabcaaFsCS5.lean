/- cayleyref18.Standard; The state of an enumeration in memory: rows that are written, parents, a queue; Equality of tables and words; a copy by append; slices.Clone; letter; word.Reduce and cayleyref02.Reduce; Appending a readable list; slices.Concat; word.Invert, Mul and cayleyref02.Invert, Mul. -/
import Derived.Test.YtmpnengjboabcaaFsCS4
import Derived.Test.YtmpnengjboabcaaFsCS2
import Derived.Test.YtmpnengjboabcaaFsCS1
import Derived.WalkMore
namespace Go.Proofs
open Go.RowKit Go.Shelf Go.Proofs.Ct
def numL (o:List Int) (n:Nat):List Int:=(List.range n).map fun (i:Nat)=>if o.contains (i:Int) then numOf o (i:Int) else -1
def fillL (i n:Nat):List Int:=(List.range n).map fun (j:Nat)=>if j < i then -1 else 0
theorem jyk (o:List Int) (n:Nat):(numL o n).length=n:=by simp [numL]
theorem jqe (i n:Nat):(fillL i n).length=n:=by simp [fillL]
theorem jpl {f g:Nat->Int} {n k:Nat} {v:Int} (hv:g k=v) (ho:∀ j,j < n->j ≠ k->g j=f j):((List.range n).map f).set k v=(List.range n).map g:=by
 refine jbe (d:=0) (by simp) fun j hj => ?_
 have hj' : j < n:=by simpa using hj
 rw [jzj]
 by_cases e:k=j
 · subst e
   rw [if_pos ⟨rfl,by simpa using hj'⟩]
   simp [List.getD_eq_getElem?_getD,hj',hv]
 · rw [if_neg (fun h=>e h.1)]
   simp [List.getD_eq_getElem?_getD,hj',ho j hj' (Ne.symm e)]
theorem jhfb {i n:Nat}:(fillL i n).set i (-1)=fillL (i + 1) n :=
 jpl (by simp) fun j _ hne=>by
   by_cases h:j < i
   · rw [if_pos h,if_pos (by omega)]
   · rw [if_neg h,if_neg (by omega)]
theorem jubb (n:Nat):fillL n n=numL [] n:=by
 unfold fillL numL
 apply List.map_congr_left
 intro j hj
 simp at hj
 simp [hj]
theorem jsz {o:List Int} {n s:Nat} (hs:(s:Int) ∉ o):(numL o n).set s o.length=numL (o ++ [(s:Int)]) n:=by
 refine jpl ?_ fun j _ hne => ?_
 · rw [if_pos (by simp),jpv hs (List.prefix_refl _)]
 · have hne' : (j:Int) ≠ (s:Int):=by omega
   by_cases hm:(j:Int) ∈ o
   · rw [if_pos (by simp [hm]),if_pos (by simpa using hm),jgj (List.prefix_append _ _) hm]
   · rw [if_neg (by simp [hm,hne']),if_neg (by simpa using hm)]
theorem jtz {o:List Int} {n s:Nat} (hs:s < n):(numL o n).getD s 0=if o.contains (s:Int) then numOf o s else -1:=by
 simp [numL,List.getD_eq_getElem?_getD,hs]
theorem judb {o:List Int} {n s:Nat} (hs:s < n) (h:(s:Int) ∈ o):(numL o n).getD s 0=numOf o s:=by
 rw [jtz hs,if_pos (by simpa using h)]
theorem jqgb {o:List Int} {n s:Nat} (hs:s < n) (h:(s:Int) ∉ o):(numL o n).getD s 0 = -1:=by
 rw [jtz hs,if_neg (by simpa using h)]
structure NumSt (nb n:Nat) (w0 wr:World) (vo:Value) (o:List Int):Prop where
 below:Below w0.heap.size w0 wr
 nb0:w0.heap.size<=nb
 num:XsAt wr nb (numL o n)
 ord:OwnI w0.heap.size wr vo o
 ap:vo.ownBlock ≠ some nb
theorem NumSt.visit {nb n:Nat} {w0 wr:World} {vo:Value} {o:List Int} (h:NumSt nb n w0 wr vo o) {s:Nat} (hs:s < n) (hn:(s:Int) ∉ o) (ho:o.length<=100000) :
   ∃ A' c' w',(Builtin.append_ #[24,24] 24 #[vo,.slice (some ⟨wr.heap.size,0,none⟩) 1 1]).run Try.prog ((wr.setCell ⟨nb,s,none⟩ (.int .i64 (o.length:Int))).alloc (.cells #[.int .i64 (s:Int)] 3))=.ok (.slice A' (o.length + 1) c') w' /\
     NumSt nb n w0 w' (.slice A' (o.length + 1) c') (o ++ [(s:Int)]):=by
 have hg1:=jae wr nb s (.int .i64 (o.length:Int))
 have hx:=h.num.set (k:=s) (by rw [jyk]; exact hs) (o.length:Int)
 rw [jsz hn] at hx
 have hor:OwnI w0.heap.size (wr.setCell ⟨nb,s,none⟩ (.int .i64 (o.length:Int))) vo o:=jna h.ord fun r hr =>
   hg1.block r (jwc h.ord hr) (fun e=>h.ap (by rw [hr]; exact e))
 have hB1:Below w0.heap.size w0 (wr.setCell ⟨nb,s,none⟩ (.int .i64 (o.length:Int))):=h.below.grown hg1 h.below.size (fun k hk=>by cases hk; exact h.nb0)
 have hsz:(wr.setCell ⟨nb,s,none⟩ (.int .i64 (o.length:Int))).heap.size=wr.heap.size:=by simp [World.setCell]
 generalize wr.setCell ⟨nb,s,none⟩ (.int .i64 (o.length:Int))=W at *
 obtain ⟨A',c',w',hr,ho',hg,hw⟩:=jyh 24 24 Try.underlying24 W w0.heap.size vo o hor (s:Int) (by omega) hB1.size
 rw [hsz] at hr
 refine ⟨A',c',w',hr,hB1.grown hg hB1.size (fun k hk=>(jga hor k hk).1),h.nb0,hx.grown hg h.ap,ho',fun e => ?_⟩
 rcases hw with hw | ⟨r',hr',hge⟩
 · exact h.ap (hw.symm.trans e)
 · rw [hr'] at e
   have:r'=nb:=Option.some.inj e
   have:=hx.lt
   omega
theorem jalb (n:Nat):madeCells (Value.int .i64 0).cells n=Array.replicate n (.int .i64 0):=by
 apply Array.ext_getElem?
 intro k
 simp only [madeCells,Value.cells,Array.getElem?_map,Array.getElem?_range,Array.getElem?_replicate]
 by_cases h:k < n
 · simp [h,Nat.mod_one]
 · simp [h]
theorem jzkb (w:World) (n:Nat) (hn:n<=1000000):∃ w',(Instr.makeSlice 24 (.int .i64 (n:Int)) (.int .i64 (n:Int))).run Try.prog w=.ok (.slice (some ⟨w.heap.size,0,none⟩) n n) w'/\XsAt w' w.heap.size (fillL 0 n)/\Below w.heap.size w w':=by
 obtain ⟨i,hi,hz,hs,hb⟩:=jvl
 have h:=run_makeSlice (P:=Try.prog) w 24 3 i (.int .i64 0) Try.underlying24 hi hz .i64 .i64 n n (by omega) (Int.le_refl _) (by rw [hs]; simp; omega) (by rw [hb]; omega) (by omega)
 simp only [Int.toNat_natCast,hs,Nat.mul_one] at h
 rw [jalb] at h
 refine ⟨_,h,⟨_,heap_alloc_new w _, ?_,fun k hk => ?_⟩,(Below.refl _ _).alloc (Nat.le_refl _) _⟩
 · rw [jqe]
   simp
 · rw [jqe] at hk
   have:(fillL 0 n).getD k 0=0:=by simp [fillL,List.getD_eq_getElem?_getD,hk]
   rw [this]
   simp [hk]
theorem NumSt.first {n nb:Nat} {w0 w:World} {b:Nat} (hB:Below w0.heap.size w0 w) (hnb:w0.heap.size<=nb) (hx:XsAt w nb (fillL n n)) (hb:b < n) :
   NumSt nb n w0 ((w.alloc (.cells #[.int .i64 (b:Int)] 3)).setCell ⟨nb,b,none⟩ (.int .i64 0)) (.slice (some ⟨w.heap.size,0,none⟩) 1 1) [(b:Int)]:=by
 have h1:=hB.size
 have h2:=hx.lt
 have hal:Below w.heap.size w (w.alloc (.cells #[.int .i64 (b:Int)] 3)):=(Below.refl _ _).alloc (Nat.le_refl _) _
 have hg:=jae (w.alloc (.cells #[.int .i64 (b:Int)] 3)) nb b (.int .i64 0)
 have hx2:=(hx.below hal).set (k:=b) (by rw [jqe]; exact hb) 0
 rw [jubb] at hx2
 have hx3:=jsz (o := []) (n:=n) (s:=b) (by simp)
 simp only [List.length_nil,List.nil_append] at hx3
 rw [show ((0:Nat):Int)=0 from rfl] at hx3
 rw [hx3] at hx2
 refine ⟨(hB.trans (hal.mono h1)).grown hg (by have:=hal.size; omega) (fun k hk=>by cases hk; exact hnb),hnb,hx2,⟨rfl,.inr ⟨w.heap.size,1,#[.int .i64 (b:Int)],rfl,h1, ?_,Nat.le_refl _,by simp [maxLen],rfl,rfl⟩⟩,fun e => ?_⟩
 · refine (hg.block w.heap.size (by simp) (fun e => ?_)).trans (heap_alloc_new w _)
   have:w.heap.size=nb:=Option.some.inj e
   omega
 · have:w.heap.size=nb:=Option.some.inj e
   omega
set_option maxRecDepth 100000 in
set_option maxHeartbeats 1000000 in
theorem jwcb (w:World) (v:Value) (g:Int) (t:Tb) (b:Int) (ht:Tab w v t) (hb:(check g t).1 ≠ 0\/b < 0\/(t.length:Int)<=b):Calls Try.prog 57 #[.int .i64 g,v,.int .i64 b] w (jwy g t b w):=by
 have HC:=Lib.hid (check44_any w v g t ht)
 obtain ⟨A,c,rfl,hc1,hc2,hc⟩:=ht.open_
 clear hc ht
 by_cases h1:(check g t).1=0
 · have hb' : b < 0\/(t.length:Int)<=b:=by
     rcases hb with h | h
     · exact absurd h1 h
     · exact h
   have HE:Hid (stdE g t b=([],2)):=Lib.hid (by unfold stdE; rw [if_neg (by simp [h1]),if_pos hb'])
   have HC' : Hid (Calls Try.prog 52 #[.int .i64 g,.slice A t.length c] w fun e w'=>e=.returned (.tuple #[.int .i64 0,.int .i64 (-1)])/\∃ q,w'=w.drewN q) :=
     Lib.hid (HC.out.mono fun e w' ⟨h2,h3⟩=>by rw [(jzm h1).2.2] at h2; exact ⟨h2,h3⟩)
   clear hb HC h1
   by_cases h2:b < 0
   · go_enter Try.func57,Try.ntmps57
     go_wp2_with (go_at_call 52; (refine HC'.out.mono ?_); rintro e w' ⟨rfl,q,rfl⟩)
     go_ret2
     exact ⟨⟨.slice none 0 0,jxh rfl (by rw [HE.out]),by rw [HE.out]; exact jsh⟩,below_drewN (Below.refl _ _) q⟩
   · have h3:(t.length:Int)<=b:=by omega
     go_enter Try.func57,Try.ntmps57
     go_wp2_with (go_at_call 52; (refine HC'.out.mono ?_); rintro e w' ⟨rfl,q,rfl⟩)
     go_ret2
     exact ⟨⟨.slice none 0 0,jxh rfl (by rw [HE.out]),by rw [HE.out]; exact jsh⟩,below_drewN (Below.refl _ _) q⟩
 · have HE:Hid (stdE g t b=([],(check g t).1)):=Lib.hid (by unfold stdE; rw [if_pos h1])
   have d1:((check g t).1 != 0)=true:=by simpa using h1
   have HC' : Hid (Calls Try.prog 52 #[.int .i64 g,.slice A t.length c] w fun e w'=>(∃ y,e=.returned (.tuple #[.int .i64 (check g t).1,.int .i64 y]))/\∃ q,w'=w.drewN q) :=
     Lib.hid (HC.out.mono fun e w' ⟨h2,h3⟩=>⟨⟨_,h2⟩,h3⟩)
   clear HC
   generalize (check g t).1=x at *
   clear hb h1
   go_enter Try.func57,Try.ntmps57
   go_wp2_with (go_at_call 52; (refine HC'.out.mono ?_); rintro e w' ⟨⟨y,rfl⟩,q,rfl⟩)
   go_ret2
   exact ⟨⟨.slice none 0 0,jxh rfl (by rw [HE.out]),by rw [HE.out]; exact jsh⟩,below_drewN (Below.refl _ _) q⟩
theorem jqw {g:Nat} {t:Tb} (_hg:TGood g t) (h:jdd t=false):t.any neg=true:=by
 unfold jdd at h
 rw [Bool.not_eq_false',List.any_eq_true] at h
 obtain ⟨row,hrow,hm⟩:=h
 rw [List.any_eq_true]
 refine ⟨row,hrow, ?_⟩
 unfold neg
 rw [List.any_eq_true]
 exact ⟨-1,by simpa using hm,by decide⟩
theorem TabB.mono {B B' : Nat} {w:World} {u:Value} {xs:List (List Int)} (h:TabB B w u xs) (hB:B'<=B):TabB B' w u xs:=fun w' hw=>h w' fun k h1 h2=>hw k (Nat.le_trans hB h1) h2
theorem OutSt.tabB {e:TypeId} {F:Nat->Prop} {w0 wr:World} {vout:Value} {rows:List (List Int)} (h:OutSt e F w0 wr vout rows):TabB w0.heap.size wr vout rows:=fun w' hw=>by
 have hub:=h.out.block
 exact (h.out.keep (G:=F) (fun r hr=>hw r (hub r hr).1 (by obtain ⟨-,C,hC⟩:=hub r hr; exact (Array.getElem?_eq_some_iff.1 hC).1)) (fun k hk=>hw k (h.fs k hk).1 (h.fs k hk).2.1) (fun _ h=>h)).tab
set_option maxRecDepth 100000 in
set_option maxHeartbeats 2000000 in
theorem std49_goodB (w:World) (v:Value) (g:Nat) (t:Tb) (b:Nat) (ht:Tab w v t) (hg:TGood g t) (hb1:b < t.length):Calls Try.prog 57 #[.int .i64 g,v,.int .i64 (b:Int)] w (jlab g t b w):=by
 have hck:=jcg hg
 have HC:Hid (Calls Try.prog 52 #[.int .i64 (g:Int),v] w fun e w'=>e=.returned (.tuple #[.int .i64 0,.int .i64 (-1)])/\∃ q,w'=w.drewN q) :=
   Lib.hid ((check44_any w v g t ht).mono fun e w' ⟨h2,h3⟩=>by rw [hck] at h2; exact ⟨h2,h3⟩)
 have HCO:Hid (∀ q,Calls Try.prog 54 #[v] (w.drewN q) fun e w'=>e=.returned (.bool (jdd t))/\∃ q',w'=(w.drewN q).drewN q'):=Lib.hid fun q=>jok (w.drewN q) v t (jda _ _ _ _ (fun _ _=>rfl) ht)
 have HE1:Hid (std t b=none->stdE g t b=([],13)):=Lib.hid fun h=>by unfold stdE; rw [hck,if_neg (by simp),if_neg (by omega),h]
 have HE2:Hid (∀ s,std t b=some s->stdE g t b=(s,0)):=Lib.hid fun s h=>by unfold stdE; rw [hck,if_neg (by simp),if_neg (by omega),h]
 obtain ⟨A,c,rfl,hc1,hc2,hc⟩:=ht.open_
 have hn2:=hg.n2
 obtain ⟨bt,ot,rfl,hcell⟩:=hc (by omega)
 have HT:=Lib.hid hcell
 have HG:=Lib.hid hg
 have hg16:=hg.g16
 have hg16' : (g:Int)<=16:=by omega
 have hg0:(0:Int)<=(g:Int):=Int.natCast_nonneg _
 have hb0:(0:Int)<=(b:Int):=Int.natCast_nonneg _
 have hb2:(b:Int) < (t.length:Int):=by omega
 have hn0:(0:Int)<=(t.length:Int):=Int.natCast_nonneg _
 clear hcell hc ht hck hg
 cases hco:jdd t with
 | false =>
   have HZ:=Lib.hid (HE1.out (jucb (jqw HG.out hco)))
   have HCO':=HCO
   rw [hco] at HCO'
   clear HCO hco
   go_enter Try.func57,Try.ntmps57
   go_wp2_with (first | (go_at_call 52; (refine HC.out.mono ?_); rintro e w' ⟨rfl,q,rfl⟩) | (go_at_call 54; (refine (HCO'.out _).mono ?_); rintro e w' ⟨rfl,q',rfl⟩))
   go_ret2
   exact ⟨⟨.slice none 0 0,jxh rfl (by rw [HZ.out]),by rw [HZ.out]; exact TabB.nil⟩,below_drewN (Below.refl _ _) _⟩
 | true =>
   have HP:Hid (∀ r,r < t.length->∀ c,c < 2 * g->0<=t.at r c/\t.at r c < t.length):=Lib.hid fun r hr c hc=>by
     have h1:=jun hco r hr c (by rw [HG.out.len r hr]; exact hc)
     have h2:=HG.out.bd r hr c hc
     have h3:t.at r c ≠ -1:=h1
     omega
   rw [hco] at HCO
   clear hco
   go_enter Try.func57,Try.ntmps57
   go_wp2_with (first
     | (go_at_call 52; (refine HC.out.mono ?_); rintro e w' ⟨rfl,q,rfl⟩)
     | (go_at_call 54
        (refine (HCO.out _).mono ?_)
        rintro e w' ⟨rfl,q',rfl⟩
        obtain ⟨w1,hr1,hx1,hb1'⟩:=jzkb (w.drewN (q + q')) t.length (by omega)
        have HB1:Hid (Below w.heap.size w w1):=Lib.hid ((below_drewN (Below.refl _ w) (q + q')).trans hb1')
        have HR1:=Lib.hid hr1
        have HX1:Hid (XsAt w1 w.heap.size (fillL 0 t.length)):=Lib.hid hx1
        clear hr1 hx1 hb1')
     | ((with_reducible refine jea 42 ?_); refine jca rfl (jkv 24 (.tmp 41) (.tmp 41) rfl rfl rfl HR1.out) ?_))
   go_loopw [11] (fun i wr=>∃ k:Nat,k<=t.length/\i=.int .i64 k/\Hid (XsAt wr w.heap.size (fillL k t.length)/\Below w.heap.size w wr)) (fun i _=>t.length - (intOf i).toNat)
   case atStart=>exact ⟨0,Nat.zero_le _,rfl,Lib.hid ⟨HX1.out,HB1.out⟩⟩
   case round =>
     clear HX1 HB1
     obtain ⟨k,hk,rfl,HK⟩:=hrel
     have hk0:(0:Int)<=(k:Int):=Int.natCast_nonneg _
     by_cases hlt:k < t.length
     · have hlt' : (k:Int) < (t.length:Int):=by omega
       have hcx:=HK.out.1.cell (k:=k) (by rw [jqe]; exact hlt)
       have hfx:=HK.out.1.frozen k
       go_wp2_with fail
       go_roundw
       case rel=>exact ⟨k + 1,by omega,by go_num,Lib.hid ⟨by have h:=HK.out.1.set (k:=k) (by rw [jqe]; exact hlt) (-1); rw [jhfb] at h; exact h,HK.out.2.grown (jae _ _ _ _) HK.out.2.size (fun k hk=>by cases hk; exact Nat.le_refl _)⟩⟩
       case measure=>simp [intOf]; omega
     · obtain rfl:k=t.length:=by omega
       rename World=>w1
       have hst:=NumSt.first HK.out.2 (Nat.le_refl _) HK.out.1 hb1
       have hal:Below w1.heap.size w1 (w1.alloc (.cells #[.int .i64 (b:Int)] 3)):=(Below.refl _ _).alloc (Nat.le_refl _) _
       have hcx:=(HK.out.1.below hal).cell (k:=b) (by rw [jqe]; exact hb1)
       have hfx:=(HK.out.1.below hal).frozen b
       have HST:=Lib.hid hst
       clear hst hal
       go_wp2_with fail
       clear hcx hfx HK
       go_loopw [12,13] (fun so i wr=>∃ k n:Nat,i=.int .i64 k/\k<=n/\k<=t.length/\Hid (n=(ordTo t b k).length)/\(∃ A c,so=.slice A n c/\Hid (NumSt w.heap.size t.length w wr so (ordTo t b k)))) (fun _ i _=>t.length - (intOf i).toNat)
       case atStart=>exact ⟨0,1,rfl,by omega,by omega,Lib.hid rfl,⟨_,_,rfl,HST⟩⟩
       case round =>
         clear HST
         obtain ⟨k,n,rfl,hkn,hkt,HN,⟨A,c',rfl,HST⟩⟩:=hrel
         have hk0:(0:Int)<=(k:Int):=Int.natCast_nonneg _
         have hC:Cos t.length (ordTo t b k):=Cos.ordTo HG.out hb0 hb2 k
         have hnl:=jva hC
         have hn3:n<=t.length:=by have:=HN.out; omega
         by_cases hlt:k < n
         · have hx:=hC.get (k:=k) (by have:=HN.out; omega)
           obtain ⟨r',hr'⟩:=Int.eq_ofNat_of_zero_le hx.1
           have hr1:r' < t.length:=by omega
           have hrl:=HG.out.len r' hr1
           have HRL:=Lib.hid hrl
           have hstep:ordTo t b (k + 1)=visitTo (t.row r') (2 * g) (ordTo t b k):=by
             rw [ordTo,if_pos (by have:=HN.out; omega),hr']
             simp [hrl]
           have HSTEP:=Lib.hid hstep
           have HCOS:=Lib.hid hC
           obtain ⟨u,hu,hI⟩:=HT.out r' hr1
           have HU:=Lib.hid hu
           have hI2:jma w u (t.row r'):=hI
           obtain ⟨Au,cu,rfl,hu1,hu2,huc⟩:=hI2.open_
           obtain ⟨bu,ou,rfl,huc'⟩:=huc (by have:=HG.out.g1; omega)
           have HUC:=Lib.hid huc'
           have hr0:(0:Int)<=(r' : Int):=Int.natCast_nonneg _
           have hr2:(r' : Int) < (t.length:Int):=by omega
           have hkn' : (k:Int) < (n:Int):=by omega
           have HX:=Lib.hid hr'
           clear hu hI hI2 huc huc' hrl hstep hC hx hr'
           go_wp2_with fail
           go_loopw [12,14] (fun so i wr2=>∃ j m:Nat,i=.int .i64 j/\j<=2 * g/\k < m/\Hid (m=(visitTo (t.row r') j (ordTo t b k)).length) /\
             (∃ A c,so=.slice A m c/\Hid (NumSt w.heap.size t.length w wr2 so (visitTo (t.row r') j (ordTo t b k))))) (fun _ i _=>2 * g - (intOf i).toNat)
           case atStart=>exact ⟨0,n,rfl,by omega,hlt,HN,⟨_,_,rfl,HST⟩⟩
           case round =>
             obtain ⟨j,m,rfl,hj,hkm,HM,⟨A6,c6,rfl,HS⟩⟩:=hrel
             have hj0:(0:Int)<=(j:Int):=Int.natCast_nonneg _
             by_cases hjl:j < 2 * g
             · have hjl3:(j:Int) < 2 * (g:Int):=by omega
               have hjl2:j < (t.row r').length:=by have:=HRL.out; omega
               have hjl4:(j:Int) < ((t.row r').length:Int):=by omega
               have hcs:=HUC.out j hjl2
               have hcs':=(HS.out.below.cell (p:=⟨bu,ou + j,none⟩) (World.block_lt_of_cell? w _ hcs)).trans hcs
               have hu3:=(HS.out.below.cell (p:=⟨bt,ot + r',none⟩) (World.block_lt_of_cell? w _ HU.out)).trans HU.out
               have hbd:=HP.out r' hr1 j hjl
               have hbd' : 0<=(t.row r').getD j 0/\(t.row r').getD j 0 < t.length:=hbd
               have HCJ:Cos t.length (visitTo (t.row r') j (ordTo t b k)):=HCOS.out.visitTo (fun c hc=>(HG.out.bd r' hr1 c (by have:=HRL.out; omega)).2) (by omega)
               have hml:=jva HCJ
               have hoI:=HS.out.ord.ints (jbu HCJ (by omega))
               obtain ⟨A5,c5,e5,he1,he2,he⟩:=hoI.open_
               obtain ⟨rfl,-,rfl⟩:=Value.slice.inj e5
               obtain ⟨b5,o5,rfl,hoc⟩:=he (by have:=HM.out; omega)
               have hock:=hoc k (by have:=HM.out; omega)
               have hgk:(visitTo (t.row r') j (ordTo t b k)).getD k 0=(r' : Int):=by
                 rw [jmt (jrk (t.row r') j (ordTo t b k)) (by have:=HN.out; omega),HX.out]
               rw [hgk] at hock
               have hkm' : (k:Int) < (m:Int):=by omega
               have HSJ:Hid (visitTo (t.row r') (j + 1) (ordTo t b k)=visit (visitTo (t.row r') j (ordTo t b k)) ((t.row r').getD j 0)):=Lib.hid rfl
               clear hcs hbd hgk hoc he e5 hoI HCJ
               generalize (t.row r').getD j 0=s at *
               obtain ⟨s',rfl⟩:=Int.eq_ofNat_of_zero_le hbd'.1
               have hs' : s' < t.length:=by omega
               have hs0:(0:Int)<=(s' : Int):=Int.natCast_nonneg _
               have hs1:(s' : Int) < (t.length:Int):=by omega
               have hnc:=HS.out.num.cell (k:=s') (by rw [jyk]; exact hs')
               have hnf:=HS.out.num.frozen s'
               generalize visitTo (t.row r') j (ordTo t b k)=oj at *
               by_cases hin:(s' : Int) ∈ oj
               · rw [judb hs' hin] at hnc
                 have hnb := @jrz oj (s' : Int)
                 have hnb1:=hnb.1
                 have hsj:=HSJ.out
                 rw [show visit oj (s' : Int)=oj by unfold visit; simp [hin]] at hsj
                 rw [<- hsj] at HS HM
                 have HNB:=Lib.hid hnb
                 clear hsj hnb hbd'
                 generalize numOf oj (s' : Int)=y at *
                 go_wp2_with fail
                 go_roundw
                 case rel=>exact ⟨j + 1,m,by go_num,by omega,hkm,HM,⟨_,_,rfl,HS⟩⟩
                 case measure=>simp [intOf]; omega
               · rw [jqgb hs' hin] at hnc
                 have hsj:=HSJ.out
                 rw [show visit oj (s' : Int)=oj ++ [(s' : Int)] by unfold visit; simp [hin]] at hsj
                 obtain ⟨A8,c8,w8,hr8,hS8⟩:=HS.out.visit hs' hin (by omega)
                 rw [<- hsj] at hS8
                 rw [<- HM.out] at hr8 hS8
                 have HM8:Hid (m + 1=(visitTo (t.row r') (j + 1) (ordTo t b k)).length):=Lib.hid (by rw [hsj,List.length_append,HM.out]; rfl)
                 have HR8:=Lib.hid hr8
                 have HS8:=Lib.hid hS8
                 clear hsj hr8 hS8 hbd'
                 go_wp2_with ((with_reducible refine jea 92 ?_); refine jca rfl (jnf (.tmp 89) (.tmp 91) 24 rfl rfl rfl HR8.out) ?_)
                 go_roundw
                 case rel=>exact ⟨j + 1,m + 1,by go_num,by omega,by omega,HM8,⟨_,_,rfl,HS8⟩⟩
                 case measure=>simp [intOf]; omega
             · obtain rfl:j=2 * g:=by omega
               have hmk:k + 1<=m:=hkm
               have HM8:Hid (m=(ordTo t b (k + 1)).length):=Lib.hid (by rw [HSTEP.out]; exact HM.out)
               rw [<- HSTEP.out] at HS
               go_wp2_with fail
               go_roundw
               case rel=>exact ⟨k + 1,m,by go_num,hmk,by omega,HM8,⟨_,_,rfl,HS⟩⟩
               case measure=>simp [intOf]; omega
         · obtain rfl:k=n:=by omega
           rename World=>w2
           have hend:ord t b=ordTo t b k:=jqdb (by have:=HN.out; omega) hkt
           rw [<- hend] at HST HN hC
           have HEND:=Lib.hid hend
           clear hend
           by_cases hkl:k < t.length
           · have hkl' : (k:Int) < (t.length:Int):=by omega
             have HZ:=Lib.hid (HE1.out (jav (b:=(b:Int)) (t:=t) (by rw [<- HN.out]; omega)))
             have HBW:=Lib.hid HST.out.below
             go_wp2_with fail
             go_ret2
             exact ⟨⟨.slice none 0 0,jxh rfl (by rw [HZ.out]),by rw [HZ.out]; exact TabB.nil⟩,HBW.out⟩
           · obtain rfl:k=t.length:=by omega
             have hoF:(ord t b).length<=1000000:=by have:=HN.out; omega
             have hoI:=HST.out.ord.ints (jbu hC (by omega))
             obtain ⟨A5,c5,e5,he1,he2,he⟩:=hoI.open_
             obtain ⟨rfl,-,rfl⟩:=Value.slice.inj e5
             obtain ⟨b5,o5,rfl,hoc⟩:=he (by have:=HN.out; omega)
             have HOC:=Lib.hid hoc
             have HNUM:=Lib.hid HST.out.num
             have HBW:=Lib.hid HST.out.below
             have HFULL:Hid (∀ r:Nat,r < t.length->(r:Int) ∈ ord t b):=Lib.hid (jwk hC HN.out.symm)
             have HZ:=Lib.hid (HE2.out _ (jfo HG.out hb0 hb2 HN.out.symm fun j hj c hc=>by
               obtain ⟨x1,x2⟩:=hC.get (k:=j) (by have:=HN.out; omega)
               have h3:((ord t b).getD j 0).toNat < t.length:=by omega
               rw [HG.out.len _ h3] at hc
               exact (HP.out _ h3 c hc).1))
             have HCOS:=Lib.hid hC
             have HOF:=Lib.hid hoF
             have hot:=OutSt.nil 24 (Below.refl w2.heap.size w2)
             have HOT:=Lib.hid hot
             clear hot hoF hoI he e5 hoc hC HST
             go_wp2_with fail
             go_loopw [16,17] (fun su i wr=>∃ k:Nat,i=.int .i64 k/\k<=t.length/\∃ F A c,su=.slice A k c/\Hid (OutSt 24 F w2 wr su (jng (ord t b) t k))) (fun _ i _=>t.length - (intOf i).toNat)
             case atStart=>exact ⟨0,rfl,by omega,_,none,0,rfl,HOT⟩
             case round =>
               clear HOT
               obtain ⟨k,rfl,hk,F,A2,c2,rfl,HST⟩:=hrel
               have hk0:(0:Int)<=(k:Int):=Int.natCast_nonneg _
               by_cases hlt:k < t.length
               · have hlt' : (k:Int) < (t.length:Int):=by omega
                 have hx:=HCOS.out.get (k:=k) (by have:=HN.out; omega)
                 obtain ⟨r',hr'⟩:=Int.eq_ofNat_of_zero_le hx.1
                 have hr1:r' < t.length:=by omega
                 have hrl:=HG.out.len r' hr1
                 have HRL:=Lib.hid hrl
                 obtain ⟨u,hu,hI⟩:=HT.out r' hr1
                 have HU:=Lib.hid hu
                 have hI2:jma w u (t.row r'):=hI
                 obtain ⟨Au,cu,rfl,hu1,hu2,huc⟩:=hI2.open_
                 obtain ⟨bu,ou,rfl,huc'⟩:=huc (by have:=HG.out.g1; omega)
                 have HUC:=Lib.hid huc'
                 have hr0:(0:Int)<=(r' : Int):=Int.natCast_nonneg _
                 have hr2:(r' : Int) < (t.length:Int):=by omega
                 have HX:=Lib.hid hr'
                 have HRN:=Lib.hid HST.out.row_nil
                 clear hu hI hI2 huc huc' hrl hx hr'
                 go_wp2_with fail
                 go_loopw [18,19] (fun sr i wr2=>∃ j:Nat,i=.int .i64 j/\j<=2 * g /\
                   (∃ A c,sr=.slice A j c/\Hid (OutSt2 24 F w2 wr2 (.slice A2 k c2) sr (jng (ord t b) t k) (((t.row r').take j).map (numOf (ord t b)))))) (fun _ i _=>2 * g - (intOf i).toNat)
                 case atStart=>exact ⟨0,rfl,by omega,none,0,rfl,HRN⟩
                 case round =>
                   clear HRN
                   obtain ⟨j,rfl,hj,A6,c6,rfl,HS⟩:=hrel
                   have hj0:(0:Int)<=(j:Int):=Int.natCast_nonneg _
                   by_cases hjl:j < 2 * g
                   · have hjl3:(j:Int) < 2 * (g:Int):=by omega
                     have hjl2:j < (t.row r').length:=by have:=HRL.out; omega
                     have hjl4:(j:Int) < ((t.row r').length:Int):=by omega
                     have hBW2:=HBW.out.trans (HS.out.st.below.mono HBW.out.size)
                     have hcs:=HUC.out j hjl2
                     have hcs':=(hBW2.cell (p:=⟨bu,ou + j,none⟩) (World.block_lt_of_cell? w _ hcs)).trans hcs
                     have hu3:=(hBW2.cell (p:=⟨bt,ot + r',none⟩) (World.block_lt_of_cell? w _ HU.out)).trans HU.out
                     have hock:=HOC.out k (by have:=HN.out; omega)
                     rw [HX.out] at hock
                     have hock':=(HS.out.st.below.cell (p:=⟨b5,o5 + k,none⟩) (World.block_lt_of_cell? w2 _ hock)).trans hock
                     have hbd:=HP.out r' hr1 j hjl
                     have hbd' : 0<=(t.row r').getD j 0/\(t.row r').getD j 0 < t.length:=hbd
                     have HXJ:=Lib.hid (jol (f:=numOf (ord t b)) hjl2)
                     have hxl:(((t.row r').take j).map (numOf (ord t b))).length=j:=by rw [List.length_map,List.length_take]; omega
                     clear hcs hbd hock hBW2
                     generalize (t.row r').getD j 0=s at *
                     generalize ((t.row r').take j).map (numOf (ord t b))=xj at *
                     obtain ⟨s',rfl⟩:=Int.eq_ofNat_of_zero_le hbd'.1
                     have hs' : s' < t.length:=by omega
                     have hs0:(0:Int)<=(s' : Int):=Int.natCast_nonneg _
                     have hs1:(s' : Int) < (t.length:Int):=by omega
                     have hnc:=(HNUM.out.below HS.out.st.below).cell (k:=s') (by rw [jyk]; exact hs')
                     rw [judb hs' (HFULL.out s' hs')] at hnc
                     have hrow2:OutSt2 24 F w2 wr (.slice A2 k c2) (.slice A6 j c6) (jng (ord t b) t k) xj:=HS.out
                     obtain ⟨A8,c8,w8,hr8,hS8⟩:=hrow2.add (by decide) 24 Try.underlying24 (numOf (ord t b) (s' : Int)) (by omega)
                     rw [hxl] at hr8 hS8
                     rw [<- HXJ.out] at hS8
                     have HR8:=Lib.hid hr8
                     have HS8:=Lib.hid hS8
                     generalize numOf (ord t b) (s' : Int)=y at *
                     clear hr8 hS8 hxl hbd' hrow2
                     go_wp2_with ((with_reducible refine jea 125 ?_); refine jca rfl (jnf (.tmp 110) (.tmp 124) 24 rfl rfl rfl HR8.out) ?_)
                     go_roundw
                     case rel=>exact ⟨j + 1,by go_num,by omega,_,_,rfl,HS8⟩
                     case measure=>simp [intOf]; omega
                   · obtain rfl:j=2 * g:=by omega
                     rename World=>wy
                     have hS:=HS.out
                     rw [List.take_of_length_le (by rw [HRL.out]; exact Nat.le_refl _)] at hS
                     obtain ⟨A8,c8,w8,hr8,hS8⟩:=hS.done (by decide) Try.underlying23 jbl (jdab HOF.out) (by rw [jof]; omega)
                     rw [jof] at hr8 hS8
                     have he8:jng (ord t b) t (k + 1)=jng (ord t b) t k ++ [(t.row r').map (numOf (ord t b))]:=by rw [jbs,HX.out]; rfl
                     rw [<- he8] at hS8
                     have HR8:=Lib.hid hr8
                     have HS8:=Lib.hid hS8
                     clear hr8 hS8 hS he8
                     go_wp2_with ((with_reducible refine jea 129 ?_); refine jca rfl (jnf (.tmp 126) (.tmp 128) 23 rfl rfl rfl HR8.out) ?_)
                     go_roundw
                     case rel=>exact ⟨k + 1,by go_num,by omega,_,_,_,rfl,HS8⟩
                     case measure=>simp [intOf]; omega
               · obtain rfl:k=t.length:=by omega
                 have HT2:=Lib.hid (HST.out.tabB.mono HBW.out.size)
                 have HBW3:=Lib.hid (HBW.out.trans (HST.out.below.mono HBW.out.size))
                 go_wp2_with fail
                 go_ret2
                 exact ⟨⟨_,jxh rfl (by rw [HZ.out]),by rw [HZ.out]; exact HT2.out⟩,HBW3.out⟩
theorem jrab (w:World) (v:Value) (g:Nat) (t:Tb) (b:Nat) (ht:Tab w v t) (hg:TGood g t) (hb1:b < t.length):Calls Try.prog 57 #[.int .i64 g,v,.int .i64 (b:Int)] w (jwy g t b w) :=
 (std49_goodB w v g t b ht hg hb1).mono fun _ _ ⟨⟨u,h1,h2⟩,h3⟩=>⟨⟨u,h1,h2.at_⟩,h3⟩
end Go.Proofs
namespace Go.Proofs
open Go.RowKit Go.Shelf Go.Proofs.Ct Go.Maps
def nats (l:List Nat):List Int:=l.map Int.ofNat
theorem jsb (l:List Nat):(nats l).length=l.length:=by simp [nats]
theorem jxgb (a b:List Nat):nats (a ++ b)=nats a ++ nats b:=by simp [nats]
theorem jrv (l:List Nat) (k:Nat):(nats l).getD k 0=(l.getD k 0:Int):=by
 unfold nats
 by_cases h:k < l.length
 · simp [List.getD_eq_getElem?_getD,h]
 · simp [List.getD_eq_getElem?_getD,List.getElem?_eq_none (by omega:l.length<=k)]
theorem juj {base:Nat} {w:World} {v:Value} {xs:List Int} (h:OwnI base w v xs) {g k:Nat} (hg:v.ownBlock=some g) (_hk:k < xs.length) (z:Int):OwnI base (w.setCell ⟨g,k,none⟩ (.int .i64 z)) v (xs.set k z):=by
 obtain ⟨hl,h⟩:=h
 rcases h with ⟨rfl,-⟩ | ⟨g',cap,cur,rfl,hb,hc,hn,hm,hs,ht⟩
 · cases hg
 · obtain rfl:g'=g:=Option.some.inj hg
   refine ⟨by simp [ints],.inr ⟨g',cap,cur.setIfInBounds k (.int .i64 z),by simp,hb,by simp [World.setCell,Array.getElem?_modify,hc],by simpa using hn,hm,by simpa using hs, ?_⟩⟩
   rw [Array.toList_setIfInBounds,List.take_set,List.length_set,ht]
   simp [ints,List.map_set]
theorem jbd {base:Nat} {w:World} {v:Value} {xs:List Int} (h:OwnI base w v xs) (hn:0 < xs.length):∃ g c,v=.slice (some ⟨g,0,none⟩) xs.length c/\base<=g/\g < w.heap.size/\(∀ k,k < xs.length->w.cell? ⟨g,k,none⟩=some (.int .i64 (xs.getD k 0)))/\∀ k,w.frozen? ⟨g,k,none⟩=false:=by
 obtain ⟨hl,h⟩:=h
 rcases h with ⟨rfl,h0⟩ | ⟨g,cap,cur,rfl,hb,hc,h1,hm,hs,ht⟩
 · omega
 · refine ⟨g,cap,rfl,hb,(Array.getElem?_eq_some_iff.1 hc).1,fun k hk => ?_,fun k=>by simp [World.frozen?,hc]⟩
   rw [cell_of_row _ _ _ _ _ _ hc]
   have h2:(cur.toList.take (xs.length * 1))[k]?=(ints xs)[k]?:=by rw [ht]
   rw [List.getElem?_take,if_pos (by omega)] at h2
   simpa [ints,hk,List.getD_eq_getElem?_getD] using h2
theorem jxp {base:Nat} {w:World} {g n c:Nat} {xs:List Int} (h:OwnI base w (.slice (some ⟨g,0,none⟩) n c) xs) {k:Nat} (hk:k < xs.length):w.cell? ⟨g,k,none⟩=some (.int .i64 (xs.getD k 0))/\w.frozen? ⟨g,k,none⟩=false:=by
 obtain ⟨g',c',e,-,-,h1,h2⟩:=jbd h (by omega)
 have e1:g=g':=by have:=congrArg Value.ownBlock e; simpa [Value.ownBlock] using this
 subst e1
 exact ⟨h1 k hk,h2 k⟩
structure CoreM (base:Nat) (w:World) (s:St) (P:List Int) (vr vp vq:Value) (bl cs:Nat->Nat):Prop where
 out:w.ownsRow base 24 1 vr s.t.length ((List.range s.t.length).map fun i=>.slice (some ⟨bl i,0,none⟩) (s.t.row i).length (cs i))
 row:∀ i,i < s.t.length->base<=bl i/\XsAt w (bl i) (s.t.row i)/\(s.t.row i).length<=cs i/\cs i<=9223372036854775807
 inj:∀ i j,i < s.t.length->j < s.t.length->bl i=bl j->i=j
 par:OwnI base w vp P
 que:OwnI base w vq (nats s.q)
 sepP:∀ i,i < s.t.length->vp.ownBlock ≠ some (bl i)
 sepQ:∀ i,i < s.t.length->vq.ownBlock ≠ some (bl i)
 pq:∀ r,vp.ownBlock=some r->vq.ownBlock ≠ some r
 root:Roots P s
section
variable {base:Nat} {w w' : World} {s:St} {P:List Int} {vr vp vq:Value} {bl cs:Nat->Nat}
theorem CoreM.keep (h:CoreM base w s P vr vp vq bl cs) (hk:∀ k C e,base<=k->w.heap[k]?=some (.cells C e (0,0))->(e=3\/e=24)->w'.heap[k]?=w.heap[k]?):CoreM base w' s P vr vp vq bl cs:=by
 refine ⟨jna h.out fun r hr => ?_,fun i hi => ?_,h.inj,jna h.par fun r hr => ?_,jna h.que fun r hr => ?_,h.sepP,h.sepQ,h.pq,h.root⟩
 · obtain ⟨a,C,hC⟩:=jga h.out r hr
   exact hk r C 24 a hC (.inr rfl)
 · obtain ⟨a,b,c⟩:=h.row i hi
   obtain ⟨C,hC,-⟩:=id b
   exact ⟨a,b.keep (hk _ C 3 a hC (.inl rfl)),c⟩
 · obtain ⟨a,C,hC⟩:=jga h.par r hr
   exact hk r C 3 a hC (.inl rfl)
 · obtain ⟨a,C,hC⟩:=jga h.que r hr
   exact hk r C 3 a hC (.inl rfl)
theorem CoreM.below (h:CoreM base w s P vr vp vq bl cs) (hb:Below w.heap.size w w'):CoreM base w' s P vr vp vq bl cs :=
 h.keep fun k _C _e _ hC _=>hb.block k (Array.getElem?_eq_some_iff.1 hC).1
theorem CoreM.other (h:CoreM base w s P vr vp vq bl cs) {b:Nat} {C0:Array Value} {T:TypeId} (hb:w.heap[b]?=some (.cells C0 T (0,0))) (h3:T ≠ 3) (h24:T ≠ 24) (k:Nat) (v:Value):CoreM base (w.setCell ⟨b,k,none⟩ v) s P vr vp vq bl cs :=
 h.keep fun j C e _ hC he=>Below.heap_setCell w ⟨b,k,none⟩ v j fun e'=>by
   have e'' : j=b:=e'
   rw [e'',hb] at hC
   cases hC
   rcases he with he | he <;> simp_all
theorem CoreM.len (h:CoreM base w s P vr vp vq bl cs):P.length=s.t.length:=h.root.len
theorem CoreM.at_ (h:CoreM base w s P vr vp vq bl cs) {r c:Nat} (hr:r < s.t.length) (hc:c < (s.t.row r).length):∃ g cap,vr=.slice (some ⟨g,0,none⟩) s.t.length cap/\w.cell? ⟨g,r,none⟩=some (.slice (some ⟨bl r,0,none⟩) (s.t.row r).length (cs r))/\w.cell? ⟨bl r,c,none⟩=some (.int .i64 (s.t.at r c))/\w.frozen? ⟨bl r,c,none⟩=false:=by
 obtain ⟨-,hX,-⟩:=h.row r hr
 obtain ⟨hl,ho⟩:=h.out
 rcases ho with ⟨-,h0⟩ | ⟨g,cap,cur,rfl,hb,hC,h1,hm,hs,ht⟩
 · omega
 · refine ⟨g,cap,rfl, ?_,hX.cell hc,hX.frozen c⟩
   rw [cell_of_row _ _ _ _ _ _ hC]
   have h2:(cur.toList.take (s.t.length * 1))[r]?=((List.range s.t.length).map fun i=>Value.slice (some ⟨bl i,0,none⟩) (s.t.row i).length (cs i))[r]?:=by rw [ht]
   rw [List.getElem?_take,if_pos (by omega)] at h2
   simpa [hr] using h2
theorem CoreM.set (h:CoreM base w s P vr vp vq bl cs) {r c:Nat} (hr:r < s.t.length) (hc:c < (s.t.row r).length) (z:Int):CoreM base (w.setCell ⟨bl r,c,none⟩ (.int .i64 z)) { s with t:=set2 s.t r c z } P vr vp vq bl cs:=by
 have hne:∀ k,k ≠ bl r->(w.setCell ⟨bl r,c,none⟩ (.int .i64 z)).heap[k]?=w.heap[k]?:=fun k hk=>Below.heap_setCell w ⟨bl r,c,none⟩ _ k hk
 obtain ⟨-,hXr,-⟩:=h.row r hr
 obtain ⟨Cr,hCr,-⟩:=id hXr
 refine ⟨?_,fun i hi => ?_,fun i j hi hj=>h.inj i j (by simpa [jlb] using hi) (by simpa [jlb] using hj),jna h.par fun k hk=>hne k (fun e=>h.sepP r hr (by rw [hk,e])),jna h.que fun k hk=>hne k (fun e=>h.sepQ r hr (by rw [hk,e])),fun i hi=>h.sepP i (by simpa [jlb] using hi),fun i hi=>h.sepQ i (by simpa [jlb] using hi),h.pq,h.root.of_rep (jlb _ _ _ _) rfl⟩
 · simp only [jlb,jfb]
   refine jna h.out fun k hk=>hne k fun e => ?_
   obtain ⟨-,C,hC⟩:=jga h.out k hk
   rw [e,hCr] at hC
   cases hC
 · simp only [jlb] at hi
   obtain ⟨a,b,d⟩:=h.row i hi
   simp only [jfb]
   refine ⟨a, ?_,d⟩
   rw [jit]
   by_cases e:r=i
   · subst e
     rw [if_pos ⟨rfl,hr⟩]
     exact hXr.set hc z
   · rw [if_neg (fun h'=>e h'.1)]
     exact b.keep (hne _ fun e'=>e (h.inj r i hr hi e'.symm))
theorem CoreM.setP (h:CoreM base w s P vr vp vq bl cs) {g x:Nat} (hg:vp.ownBlock=some g) (hx:x < P.length) (z:Int) {s' : St} (ht:s'.t=s.t) (hq:s'.q=s.q) (hroot:Roots (P.set x z) s'):CoreM base (w.setCell ⟨g,x,none⟩ (.int .i64 z)) s' (P.set x z) vr vp vq bl cs:=by
 have hne:∀ k,k ≠ g->(w.setCell ⟨g,x,none⟩ (.int .i64 z)).heap[k]?=w.heap[k]?:=fun k hk=>Below.heap_setCell w ⟨g,x,none⟩ _ k hk
 obtain ⟨-,Cg,hCg⟩:=jga h.par g hg
 refine ⟨?_,fun i hi => ?_,by rw [ht]; exact h.inj,juj h.par hg hx z,by rw [hq]; exact jna h.que fun k hk=>hne k (fun e=>h.pq g hg (by rw [hk,e])),by rw [ht]; exact h.sepP,by rw [ht]; exact h.sepQ,h.pq,hroot⟩
 · rw [ht]
   refine jna h.out fun k hk=>hne k fun e => ?_
   obtain ⟨-,C,hC⟩:=jga h.out k hk
   rw [e,hCg] at hC
   cases hC
 · rw [ht] at hi ⊢
   obtain ⟨a,b,d⟩:=h.row i hi
   exact ⟨a,b.keep (hne _ fun e=>h.sepP i hi (by rw [hg,e])),d⟩
theorem CoreM.pushQ (h:CoreM base w s P vr vp vq bl cs) (hbw:base<=w.heap.size) (x:Nat) (hl:s.q.length<=1000000):∃ A' c' w',(Builtin.append_ #[24,24] 24 #[vq,.slice (some ⟨w.heap.size,0,none⟩) 1 1]).run Try.prog (w.alloc (.cells #[.int .i64 (x:Int)] 3))=.ok (.slice A' (s.q.length + 1) c') w' /\
   CoreM base w' { s with q:=s.q ++ [x] } P vr vp (.slice A' (s.q.length + 1) c') bl cs/\w.grownBy w' vq.ownBlock:=by
 have hq:=h.que
 obtain ⟨A',c',w',hr,ho,hg,hw⟩:=jyh 24 24 Try.underlying24 w base vq (nats s.q) hq (x:Int) (by rw [jsb]; omega) hbw
 rw [jsb] at hr ho hw
 have hne:∀ k C e,w.heap[k]?=some (.cells C e (0,0))->vq.ownBlock ≠ some k->w'.heap[k]?=w.heap[k]?:=fun k C e hC hn=>hg.block k (Array.getElem?_eq_some_iff.1 hC).1 (Ne.symm hn)
 have hnewb:∀ r,(Value.slice A' (s.q.length + 1) c').ownBlock=some r->vq.ownBlock=some r\/w.heap.size<=r:=fun r hr=>by
   rcases hw with hw | ⟨r',hr',hge⟩
   · exact .inl (by rw [<- hw]; exact hr)
   · rw [hr] at hr'
     cases hr'
     exact .inr hge
 refine ⟨A',c',w',hr,⟨jna h.out fun k hk => ?_,fun i hi => ?_,h.inj,jna h.par fun k hk => ?_, ?_,h.sepP,fun i hi e => ?_,fun r hr e => ?_,h.root.of_rep rfl rfl⟩,hg⟩
 · obtain ⟨-,C,hC⟩:=jga h.out k hk
   refine hne k C 24 hC fun e => ?_
   obtain ⟨-,C',hC'⟩:=jga hq k e
   rw [hC] at hC'
   cases hC'
 · obtain ⟨a,b,d⟩:=h.row i hi
   obtain ⟨C,hC,-⟩:=id b
   exact ⟨a,b.keep (hne _ C 3 hC (h.sepQ i hi)),d⟩
 · obtain ⟨-,C,hC⟩:=jga h.par k hk
   exact hne k C 3 hC (h.pq k hk)
 · show OwnI base w' _ (nats (s.q ++ [x]))
   rw [jxgb]
   exact ho
 · obtain ⟨-,b,-⟩:=h.row i hi
   rcases hnewb _ e with e | e
   · exact h.sepQ i hi e
   · exact absurd b.lt (by omega)
 · rcases hnewb _ e with e | e
   · exact h.pq r hr e
   · exact absurd (jwc h.par hr) (by omega)
end
end Go.Proofs
namespace Go.Proofs
open Go.RowKit Go.Shelf Go.Proofs.Ct
set_option maxRecDepth 100000 in
set_option maxHeartbeats 400000 in
theorem jrj (w:World) (va vb:Value) (A B:List (List Int)) (ha:Tab w va A) (hb:Tab w vb B) :
   Calls Try.prog 42 #[va,vb] w fun e w'=>e=.returned (.bool (decide (A=B)))/\∃ q,w'=w.drewN q:=by
 obtain ⟨A0,ca,rfl,ha1,ha2,ha3⟩:=ha.open_
 obtain ⟨B0,cb,rfl,hb1,hb2,hb3⟩:=hb.open_
 have HA:=Lib.hid ha3
 have HB:=Lib.hid hb3
 clear ha hb ha3 hb3
 by_cases hl:A.length=B.length
 · have d1 : ((A.length:Int) != (B.length:Int))=false:=by simp; omega
   have d2:(A.length != B.length)=false:=by simp; omega
   have HL:=Lib.hid hl
   clear hl
   go_enter Try.func42,Try.ntmps42
   go_wp2_with fail
   go_loopw [5] (fun i wr=>∃ k:Nat,k<=A.length/\i=.int .i64 k/\(∀ j,j < k->A.getD j []=B.getD j [])/\∃ q,wr=w.drewN q) (fun i _=>A.length - (intOf i).toNat)
   case atStart=>exact ⟨0,Nat.zero_le _,rfl,fun j hj=>absurd hj (by omega),0,rfl⟩
   case round =>
     obtain ⟨k,hk,rfl,hz,q,rfl⟩:=hrel
     have HZ:=Lib.hid hz
     clear hz
     by_cases hlt:k < A.length
     · obtain ⟨b1,o1,rfl,hc1⟩:=HA.out (by omega)
       obtain ⟨b2,o2,rfl,hc2⟩:=HB.out (by rw [<- HL.out]; omega)
       obtain ⟨u1,hu1,hr1⟩:=hc1 k hlt
       obtain ⟨u2,hu2,hr2⟩:=hc2 k (by rw [<- HL.out]; omega)
       obtain ⟨A3,c3,rfl,hd1,hd2,hd⟩:=hr1.open_
       obtain ⟨A4,c4,rfl,he1,he2,he⟩:=hr2.open_
       have hk0:(0:Int)<=(k:Int):=Int.natCast_nonneg _
       have hkb:(k:Int) < (B.length:Int):=by rw [<- HL.out]; omega
       have hka:(k:Int) < (A.length:Int):=by omega
       have HN:=Lib.hid (fun h=>jhy (A:=A) (B:=B) (d := []) (k:=k) h)
       generalize hxe:A.getD k []=x at *
       generalize hye:B.getD k []=y at *
       have HXE:=Lib.hid hxe
       have HYE:=Lib.hid hye
       clear hxe hye
       have HD:=Lib.hid hd
       have HE:=Lib.hid he
       clear hc1 hc2 hr1 hr2 hd he
       by_cases hxy:x.length=y.length
       · have d3:((x.length:Int) != (y.length:Int))=false:=by simp; omega
         have d4:(x.length != y.length)=false:=by simp; omega
         have HX:=Lib.hid hxy
         clear hxy
         go_wp2_with fail
         go_quiet (fail)
         go_wp2_with fail
         go_loopw [6] (fun i wr=>∃ j:Nat,j<=x.length/\i=.int .i64 j/\(∀ t,t < j->x.getD t 0=y.getD t 0)/\∃ q,wr=w.drewN q) (fun i _=>x.length - (intOf i).toNat)
         case atStart=>exact ⟨0,Nat.zero_le _,rfl,fun j hj=>absurd hj (by omega),(by first | exact ⟨_,rfl⟩ | exact job)⟩
         case round =>
           obtain ⟨j,hj,rfl,hzj,qj,rfl⟩:=hrel
           have HZJ:=Lib.hid hzj
           clear hzj
           by_cases hjl:j < x.length
           · obtain ⟨b3,o3,rfl,hx⟩:=HD.out (by omega)
             obtain ⟨b4,o4,rfl,hy⟩:=HE.out (by rw [<- HX.out]; omega)
             have hx1:=hx j hjl
             have hy1:=hy j (by rw [<- HX.out]; omega)
             have hj0:(0:Int)<=(j:Int):=Int.natCast_nonneg _
             have hjb:(j:Int) < (y.length:Int):=by rw [<- HX.out]; omega
             have hja:(j:Int) < (x.length:Int):=by omega
             have HM:=Lib.hid (fun h=>jhy (A:=x) (B:=y) (d:=0) (k:=j) h)
             clear hx hy
             generalize hse:x.getD j 0=s at *
             generalize hte:y.getD j 0=t at *
             have HSE:=Lib.hid hse
             have HTE:=Lib.hid hte
             clear hse hte
             by_cases hst:s=t
             · have d5:(s != t)=false:=by simpa using hst
               have HS:=Lib.hid hst
               clear hst
               go_wp2_with fail
               go_quiet (fail)
               go_wp2_with fail
               go_roundw
               case rel=>exact ⟨j + 1,by omega,by go_num,jeb HZJ.out (by rw [HSE.out,HTE.out]; exact HS.out),(by first | exact ⟨_,rfl⟩ | exact job)⟩
               case measure=>simp [intOf]; omega
             · have d5:(s != t)=true:=by simpa using hst
               have HS:=Lib.hid hst
               clear hst
               go_wp2_with fail
               go_quiet (fail)
               go_wp2_with fail
               go_ret
               exact ⟨jsa (by simpa using HN.out (HM.out HS.out)),(by first | exact ⟨_,rfl⟩ | exact job)⟩
           · obtain rfl:j=x.length:=by omega
             go_wp2_with fail
             go_roundw
             case rel=>exact ⟨k + 1,by omega,by go_num,jeb HZ.out (by rw [HXE.out,HYE.out]; exact jbe HX.out HZJ.out),_,rfl⟩
             case measure=>simp [intOf]; omega
       · have d3:((x.length:Int) != (y.length:Int))=true:=by simp; omega
         have d4:(x.length != y.length)=true:=by simp; omega
         have HX:=Lib.hid hxy
         clear hxy
         go_wp2_with fail
         go_quiet (fail)
         go_wp2_with fail
         go_ret
         exact ⟨jsa (by simpa using HN.out (fun e=>HX.out (by rw [e]))),(by first | exact ⟨_,rfl⟩ | exact job)⟩
     · obtain rfl:k=A.length:=by omega
       go_wp2_with fail
       go_ret
       exact ⟨jsa (by simpa using jbe HL.out HZ.out),_,rfl⟩
 · have d1:((A.length:Int) != (B.length:Int))=true:=by simp; omega
   have d2:(A.length != B.length)=true:=by simp; omega
   have HL:=Lib.hid hl
   clear hl
   go_enter Try.func42,Try.ntmps42
   go_wp2_with fail
   go_ret
   exact ⟨jsa (by simpa using fun e=>HL.out (by rw [e])),0,rfl⟩
set_option maxRecDepth 100000 in
set_option maxHeartbeats 400000 in
theorem jiw (w:World) (va vb:Value) (x y:List Int) (ha:jma w va x) (hb:jma w vb y) :
   Calls Try.prog 191 #[va,vb] w fun e w'=>e=.returned (.bool (decide (x=y)))/\∃ q,w'=w.drewN q:=by
 obtain ⟨A3,c3,rfl,hd1,hd2,hd⟩:=ha.open_
 obtain ⟨A4,c4,rfl,he1,he2,he⟩:=hb.open_
 have HD:=Lib.hid hd
 have HE:=Lib.hid he
 clear ha hb hd he
 have HN:=Lib.hid (fun (h:x.length ≠ y.length) (e:x=y)=>h (by rw [e]))
 by_cases hxy:x.length=y.length
 · have d3:((x.length:Int) != (y.length:Int))=false:=by simp; omega
   have d4:(x.length != y.length)=false:=by simp; omega
   have HX:=Lib.hid hxy
   clear hxy
   go_enter Try.func191,Try.ntmps191
   go_wp2_with fail
   go_loopw [5,13] (fun _ i wr=>∃ j:Nat,j<=x.length/\i=.int .i64 j/\(∀ t,t < j->x.getD t 0=y.getD t 0)/\∃ q,wr=w.drewN q) (fun _ i _=>x.length - (intOf i).toNat)
   case atStart=>exact ⟨0,Nat.zero_le _,rfl,fun j hj=>absurd hj (by omega),0,rfl⟩
   case round =>
     obtain ⟨j,hj,rfl,hzj,qj,rfl⟩:=hrel
     have HZJ:=Lib.hid hzj
     clear hzj
     by_cases hjl:j < x.length
     · obtain ⟨b3,o3,rfl,hx⟩:=HD.out (by omega)
       obtain ⟨b4,o4,rfl,hy⟩:=HE.out (by rw [<- HX.out]; omega)
       have hx1:=hx j hjl
       have hy1:=hy j (by rw [<- HX.out]; omega)
       have hj0:(0:Int)<=(j:Int):=Int.natCast_nonneg _
       have hjb:(j:Int) < (y.length:Int):=by rw [<- HX.out]; omega
       have hja:(j:Int) < (x.length:Int):=by omega
       have HM:=Lib.hid (fun h=>jhy (A:=x) (B:=y) (d:=0) (k:=j) h)
       clear hx hy
       generalize hse:x.getD j 0=s at *
       generalize hte:y.getD j 0=t at *
       have HSE:=Lib.hid hse
       have HTE:=Lib.hid hte
       clear hse hte
       by_cases hst:s=t
       · have d5:(s != t)=false:=by simpa using hst
         have HS:=Lib.hid hst
         clear hst
         go_wp2_with fail
         go_quiet (fail)
         go_wp2_with fail
         go_roundw
         case rel=>exact ⟨j + 1,by omega,by go_num,jeb HZJ.out (by rw [HSE.out,HTE.out]; exact HS.out),(by first | exact ⟨_,rfl⟩ | exact job)⟩
         case measure=>simp [intOf]; omega
       · have d5:(s != t)=true:=by simpa using hst
         have HS:=Lib.hid hst
         clear hst
         go_wp2_with fail
         go_quiet (fail)
         go_wp2_with fail
         go_ret
         exact ⟨jsa (by simpa using HM.out HS.out),(by first | exact ⟨_,rfl⟩ | exact job)⟩
     · obtain rfl:j=x.length:=by omega
       go_wp2_with fail
       go_ret
       exact ⟨jsa (by simpa using jbe HX.out HZJ.out),(by first | exact ⟨_,rfl⟩ | exact job)⟩
 · have d3:((x.length:Int) != (y.length:Int))=true:=by simp; omega
   have d4:(x.length != y.length)=true:=by simp; omega
   have HX:=Lib.hid hxy
   clear hxy
   go_enter Try.func191,Try.ntmps191
   go_wp2_with fail
   go_ret
   exact ⟨jsa (by simpa using HN.out HX.out),0,rfl⟩
theorem jjgb {t:TypeId} (ht:Try.prog.underlying t=some (.slice 3)) {w:World} {v:Value} {y:List Int} (h:jma w v y):Src Try.prog 1 t v y.length (ints y) w:=by
 obtain ⟨⟨A,n,cap,rfl,hn,hc,hm,hr⟩,-⟩:=h
 have hl:n=y.length:=by simpa [ints] using hn
 subst hl
 rcases Nat.eq_zero_or_pos y.length with h0 | h0
 · obtain rfl:y = []:=List.length_eq_zero_iff.1 h0
   cases A with
   | none=>exact Src.ofNil w ht cap
   | some a=>exact Src.ofSlice w ht a 0 cap [] rfl (fun j u hu=>by simp at hu) (fun u hu=>by cases hu)
 · obtain ⟨b,off,rfl,hrow⟩:=hr h0
   exact Src.ofSlice w ht _ _ cap (ints y) (by simp [ints]) (fun j u hu=>by rw [Addr.add_lit]; exact hrow j u hu) (fun u hu=>by obtain ⟨x,-,rfl⟩:=List.mem_map.1 hu; rfl)
theorem jlz {t:TypeId} (ht:Try.prog.underlying t=some (.slice 3)) {w:World} {v:Value} {y:List Int} (h:jma w v y) (hl:y.length<=1000000) :
   ∃ A cap w',(Builtin.append_ #[t,t] t #[.slice (some ⟨w.heap.size,0,none⟩) 0 0,v]).run Try.prog (w.alloc (.cells #[] 3))=.ok (.slice A y.length cap) w' /\
     Below w.heap.size w w'/\OwnI w.heap.size w' (.slice A y.length cap) y:=by
 obtain ⟨i,hi,hz,hs,hby⟩:=jvl
 have hal:Below w.heap.size w (w.alloc (.cells #[] 3)):=(Below.refl _ _).alloc (Nat.le_refl _) _
 have hnew:=heap_alloc_new w (.cells #[] 3)
 have hsz:(w.alloc (.cells #[] 3)).heap.size=w.heap.size + 1:=by simp
 have hsrc:=jjgb ht (h.below hal)
 generalize w.alloc (.cells #[] 3)=W at *
 rcases Nat.eq_zero_or_pos y.length with h0 | h0
 · obtain rfl:y = []:=List.length_eq_zero_iff.1 h0
   have:=run_append_room_src (P:=Try.prog) W t t t 3 i ht hi w.heap.size 0 0 0 v 0 [] (by rw [hs]; exact hsrc) (Nat.le_refl _) (fun j hj=>absurd hj (by simp)) (fun j hj=>absurd hj (by simp))
   exact ⟨_,0,W,this,hal,rfl,.inr ⟨w.heap.size,0,#[],rfl,Nat.le_refl _,hnew,Nat.le_refl _,by simp,rfl,rfl⟩⟩
 · have hold:(Builtin.firstCells i.size 0 (.slice (some ⟨w.heap.size,0,none⟩) 0 0)).run Try.prog W.drew=.ok ([]:List Value).toArray W.drew:=by
     rw [hs]
     exact run_firstCells_some W.drew 1 0 ⟨w.heap.size,0,none⟩ 0 0 [] rfl (fun j u hu=>by simp at hu)
   have hg:=run_append_grow_src (P:=Try.prog) W t t t 3 i (.int .i64 0) ht hi hz (some ⟨w.heap.size,0,none⟩) 0 0 [] hold v y.length (ints y) (by rw [hs]; exact hsrc) (by omega) (by omega) (growslice_fits (by omega) (by rw [hby]; omega))
   simp only [Nat.zero_add,List.nil_append] at hg
   have hcm:=grownCap_le_maxLen W y.length 0 3 (by unfold maxLen; omega)
   have hcg:=grownCap_ge W y.length 0 3
   refine ⟨_,_,_,hg,hal.trans ⟨rfl,rfl,rfl,by simp,fun k hk=>(Below.heap_alloc W.drew _ k (by show k < W.heap.size; omega))⟩,by simp [ints],.inr ⟨W.heap.size,_,_,rfl,by omega,heap_alloc_new W.drew _,hcg,hcm, ?_, ?_⟩⟩
   · simp [ints,size_zeroCells,Value.cells]
     omega
   · simp [ints]
theorem jwbb (w:World) (n c:Nat):(binOp .eql 25 (.slice none n c) (.slice none 0 0)).run Try.prog w=.ok (.bool true) w:=by kernel_rfl
theorem jvbb (w:World) (a:Addr) (n c:Nat):(binOp .eql 25 (.slice (some a) n c) (.slice none 0 0)).run Try.prog w=.ok (.bool false) w:=by kernel_rfl
set_option maxRecDepth 100000 in
theorem jry (w:World) (v:Value) (xs:List Int) (h:jma w v xs) (hl:xs.length<=1000000) :
   Calls Try.prog 95 #[v] w fun e w'=>∃ A c,e=.returned (.slice A xs.length c)/\OwnI w.heap.size w' (.slice A xs.length c) xs/\Below w.heap.size w w':=by
 obtain ⟨A0,c0,w',hr,hb,ho⟩:=jlz Try.underlying25 h hl
 have HR:=Lib.hid hr
 have HB:=Lib.hid hb
 have HO:=Lib.hid ho
 obtain ⟨A,cap,rfl,hcap,hmax,hc⟩:=h.open_
 cases A with
 | none =>
   have h0:xs = []:=by
     rcases Nat.eq_zero_or_pos xs.length with h0 | h0
     · exact List.length_eq_zero_iff.1 h0
     · obtain ⟨b,off,hx,-⟩:=hc h0
       cases hx
   clear hr hb ho hc h HR HB HO
   subst h0
   have hq:=jwbb w
   go_enter Try.func95,Try.ntmps95
   go_wp2_with fail
   go_ret
   exact ⟨none,0,rfl,World.ownsRow_nil _ _ _ _,Below.refl _ _⟩
 | some a =>
   clear hr hb ho hc h
   have hq:=jvbb w
   go_enter Try.func95,Try.ntmps95
   go_wp2_with ((with_reducible refine jea 7 ?_); refine jca rfl (jnf (.tmp 5) (.tmp 6) 25 rfl rfl rfl HR.out) ?_)
   go_ret
   exact ⟨_,_,rfl,HO.out,HB.out⟩
end Go.Proofs
namespace Go.Proofs
open Go.RowKit Go.Shelf Go.Proofs.Ct
def Mild (x:Int):Prop := -4611686018427387903<=x/\x<=4611686018427387903
theorem Mild.fits {w:List Int} (h:∀ x ∈ w,Mild x):Fits w:=fun x hx=>by
 have:=h x hx
 unfold Mild at this
 omega
theorem jpdb {w:World} {base:Nat} {A:Option Addr} {n c:Nat} {xs:List Int} (h:w.ownsRow base 3 1 (.slice A n c) n (ints xs)) {k:Nat} (hk:k<=n):w.ownsRow base 3 1 (.slice A k c) k (ints (xs.take k)):=by
 obtain ⟨hl,h2⟩:=h
 have hxl:xs.length=n:=by simpa [ints] using hl
 refine ⟨by simp [ints]; omega, ?_⟩
 rcases h2 with ⟨e,h0⟩ | ⟨g,cap,cur,e,hb,hg,hnc,hcm,hcs,ht⟩
 · cases e
   obtain rfl:k=0:=by omega
   exact .inl ⟨rfl,rfl⟩
 · cases e
   refine .inr ⟨g,c,cur,rfl,hb,hg,by omega,hcm,hcs, ?_⟩
   have:ints (xs.take k)=(ints xs).take k:=by simp [ints,List.map_take]
   rw [this, <- ht,List.take_take]
   congr 1
   omega
def RedPost (x:List Int) (w:World) (e:Ending) (w' : World):Prop:=∃ A c,e=.returned (.slice A (red x).length c)/\OwnI w.heap.size w' (.slice A (red x).length c) (red x)/\Below w.heap.size w w'
end Go.Proofs
namespace Go.Proofs
open Go.RowKit Go.Shelf Go.Proofs.Ct
theorem jhp {P:Program} (w:World) (base:Nat) (t ty e:TypeId) (i:TypeInfo) (ht:P.underlying t=some (.slice e)) (hi:P.info? e=some i) (c:Nat)
   (v:Value) (n:Nat) (xs:List Value) (hown:w.ownsRow base e 1 v n xs):(Builtin.append_ #[t,t] ty #[v,.slice none 0 c]).run P w=.ok v w:=by
 rcases hown.2 with ⟨rfl,rfl⟩ | ⟨g,cap,cur,rfl,_,_,hnc,_⟩
 · simp [Builtin.append_,run_underlying ht,sizeOf,typeInfo,hi,Builtin.lenOf,Builtin.firstCells]
 · simp [Builtin.append_,run_underlying ht,sizeOf,typeInfo,hi,Builtin.lenOf,Builtin.firstCells,hnc,storeCells]
theorem jxi (ty t:TypeId) (ht:Try.prog.underlying t=some (.slice 3)) (w:World) (base:Nat) (v u:Value) (x y:List Int) (h:OwnI base w v x) (hu:jma w u y) (hx:x.length<=1000000) (hy:y.length<=1000000) (hb:base<=w.heap.size) :
   ∃ A' c' w',(Builtin.append_ #[t,t] ty #[v,u]).run Try.prog w=.ok (.slice A' (x ++ y).length c') w'/\OwnI base w' (.slice A' (x ++ y).length c') (x ++ y)/\w.grownBy w' v.ownBlock /\
     ((Value.slice A' (x ++ y).length c').ownBlock=v.ownBlock\/∃ r,(Value.slice A' (x ++ y).length c').ownBlock=some r/\w.heap.size<=r):=by
 obtain ⟨i3,hi3,hz3,hs3,hb3⟩:=jvl
 have hl:(x ++ y).length=x.length + y.length:=List.length_append
 obtain ⟨A,c,rfl,hc1,hc2,hc⟩:=hu.open_
 cases A with
 | none =>
   have h0:y = []:=by
     rcases Nat.eq_zero_or_pos y.length with h0 | h0
     · exact List.length_eq_zero_iff.1 h0
     · obtain ⟨b,off,hx,-⟩:=hc h0
       cases hx
   subst h0
   obtain ⟨A',c',e⟩:=jgc h
   subst e
   rw [List.append_nil]
   exact ⟨A',c',w,jhp w base t ty 3 i3 ht hi3 c _ _ _ h,h,World.grownBy.refl w _,.inl rfl⟩
 | some a =>
   have hcells:∀ j u,(ints y)[j]?=some u->w.cell? (a.add j)=some u:=by
     intro j u hju
     have hj:j < y.length:=by
       have:=(List.getElem?_eq_some_iff.1 hju).1
       simpa [ints] using this
     obtain ⟨b,off,e,hcc⟩:=hc (by omega)
     cases e
     rw [Addr.add_lit,hcc j hj, <- hju]
     simp [ints,hj,List.getD_eq_getElem?_getD]
   obtain ⟨v',w',hr,hown,hg,-,hw⟩:=run_append_own_at (P:=Try.prog) w base t ty 3 i3 (.int .i64 0) 1 8 ht hi3 hz3 hs3 hb3 rfl (by omega) v x.length (ints x) h a y.length c (ints y) (by simp [ints]) hcells (fun u hu=>by
     obtain ⟨z,-,rfl⟩:=List.mem_map.1 hu; rfl) (by unfold maxLen; omega) (by omega) hb
   obtain ⟨A',c',rfl⟩:=jgc hown
   refine ⟨A',c',w',by rw [hr,hl],by unfold OwnI; rw [hl,jxt]; exact hown,hg,by rw [hl]; exact hw.imp id fun hh=>⟨_,hh,Nat.le_refl _⟩⟩
theorem jzgb {w:List Int} (h:∀ z ∈ w,Mild z):∀ z ∈ inv w,Mild z:=fun z hz=>by
 have:=h _ (jbeb hz)
 unfold Mild at *
 omega
end Go.Proofs
