/- Holds: the plain law; the closures of coset.Holds; coset.Holds; cayleyref18.Holds; The reference's system in memory: its box, its rows of numbers; The reference's system under construction; The reference's rewrite of a system; rewrite.Present: what it answers; structs of type 40; the relators under way; rewrite.Present; The law of chapter 21: same, half, awake; A region that draws its order, with guarded operations: each operation is shown once; A region that draws its order, whatever it holds: each operation is shown once; One operation at a time: what it runs to. -/
import Derived.Test.YtmpnengjboabcaaFsCS6
import Derived.Deep.MidRow
import Derived.Deep.RegionHeld3
import Derived.Test.YtmpnengjboabcaaFsCS5
namespace Go.Proofs
open Go.RowKit Go.Shelf Go.Proofs.Ct Go.Maps
def holdsE (g:Int) (rels sub:List W) (t:Tb):Bool × Int :=
 if presE g rels ≠ 0 then (false,presE g rels) else
 if (sub.any fun w=>w.any (jxa g.toNat))=true then (false,2) else
 if (check g t).1 ≠ 0 then (false,(check g t).1) else (jeh rels sub t,0)
def jcr (g:Int) (rels sub:List W) (t:Tb) (w:World) (e:Ending) (w' : World):Prop :=
 e=.returned (.tuple #[.bool (holdsE g rels sub t).1,.int .i64 (holdsE g rels sub t).2])/\Below w.heap.size w w'
theorem jkab {p:W->Bool} {l:List W}:l.all p=true ↔ ∀ j,j < l.length->p (l.getD j [])=true:=by
 rw [List.all_eq_true]
 constructor
 · intro h j hj
   rw [List.getD_eq_getElem?_getD,List.getElem?_eq_getElem hj]
   exact h _ (List.getElem_mem hj)
 · intro h x hx
   obtain ⟨c,hc,rfl⟩:=List.mem_iff_getElem.1 hx
   have:=h c hc
   rwa [List.getD_eq_getElem?_getD,List.getElem?_eq_getElem hc] at this
theorem jap {t:Tb} {r:Int} {l:List W} (h:∀ j,j < l.length->leads t r (l.getD j [])=r):jfl t r l=true:=jkab.2 fun j hj=>by simpa using h j hj
theorem jgn {t:Tb} {r:Int} {l:List W} {j:Nat} (hj:j < l.length) (h:leads t r (l.getD j []) ≠ r):jfl t r l=false:=by
 rw [Bool.eq_false_iff]
 intro h'
 have:=jkab.1 h' j hj
 simp at this
 exact h (by simpa using this)
theorem jqbb {rels sub:List W} {t:Tb} (h1:jdd t=true) (h2:∀ j,j < sub.length->leads t 0 (sub.getD j [])=0) (h3:∀ r,r < t.length->jfl t (r:Int) rels=true):jeh rels sub t=true:=by
 unfold jeh
 rw [h1,jap h2]
 simp only [Bool.true_and,List.all_eq_true,List.mem_range]
 exact h3
theorem jafb {rels sub:List W} {t:Tb} {j:Nat} (hj:j < sub.length) (h:leads t 0 (sub.getD j []) ≠ 0):jeh rels sub t=false:=by
 unfold jeh
 rw [jgn hj h]
 simp
theorem jbfb {rels sub:List W} {t:Tb} {r j:Nat} (hr:r < t.length) (hj:j < rels.length) (h:leads t r (rels.getD j []) ≠ r):jeh rels sub t=false:=by
 unfold jeh
 have:((List.range t.length).all fun r=>jfl t (r:Int) rels)=false:=by
   rw [Bool.eq_false_iff]
   intro h'
   rw [List.all_eq_true] at h'
   have:=h' r (by simpa using hr)
   rw [jgn hj h] at this
   cases this
 rw [this]
 simp
theorem jrbb {rels sub:List W} {t:Tb} (h:jdd t=false):jeh rels sub t=false:=by unfold jeh; rw [h]; rfl
theorem jgg {g:Int} {rels:List W} (h:presE g rels=0):∃ gn:Nat,g=gn/\1<=gn/\gn<=16/\rels.length<=100/\∀ j,j < rels.length->jpk gn (rels.getD j [])/\(rels.getD j []).length<=4000:=by
 unfold presE at h
 by_cases h1:g < 1\/16 < g
 · rw [if_pos h1] at h; omega
 · rw [if_neg h1] at h
   by_cases h2:100 < rels.length
   · rw [if_pos h2] at h; omega
   · rw [if_neg h2] at h
     have hz:∀ j,j < rels.length->jjb g.toNat rels j=0:=by
       cases hf:first (fun k=>decide (jjb g.toNat rels k ≠ 0)) rels.length with
       | none=>intro j hj; simpa using jnd hf j hj
       | some k =>
         rw [hf] at h
         have h3:=(jff hf).2.1
         simp at h3
         exact absurd h h3
     refine ⟨g.toNat,by omega,by omega,by omega,by omega,fun j hj => ?_⟩
     have hb:=hz j hj
     unfold jjb at hb
     by_cases h3:4000 < sumTo rels (j + 1)
     · rw [if_pos h3] at hb; omega
     · rw [if_neg h3] at hb
       refine ⟨jzv ?_, ?_⟩
       · cases hx:(rels.getD j []).any (jxa g.toNat) with
         | false=>rfl
         | true=>rw [hx] at hb; simp at hb
       · rw [jjm] at h3; omega
theorem jyo {g:Nat} {sub:List W} (h:(sub.any fun w=>w.any (jxa g))=false):∀ j,j < sub.length->jpk g (sub.getD j []):=fun j hj=>jzv (by
 rw [List.any_eq_false] at h
 have:=h (sub.getD j []) (by rw [List.getD_eq_getElem?_getD,List.getElem?_eq_getElem hj]; exact List.getElem_mem hj)
 exact Bool.eq_false_iff.2 this)
theorem jgeb {w:World} {b:Nat} {v0 v1:Value} (hc:w.heap[b]?=some (.cells #[v0,v1] 40 (0,0))):(Instr.loadAt 40 (.pointer (some ⟨b,0,none⟩))).run Try.prog w=.ok (.agg #[v0,v1]) w:=by
 have hr:w.rangeAt b 0 [v0,v1]:=fun j v hj=>by rw [cell_of_row _ _ _ _ _ _ hc,Nat.zero_add]; simpa using hj
 exact run_loadAt_mid (P:=Try.prog) w b 0 40 [v0,v1] _ hr Try.underlying40 rfl (by kernel_rfl)
end Go.Proofs
namespace Go.Proofs
open Go.RowKit Go.Shelf Go.Proofs.Ct Go.Maps
theorem LAt.cells {α:Type} {R:World->Value->α->Prop} {d:α} {w:World} {A:Option Addr} {n c:Nat} {xs:List α} (h:LAt R d w (.slice A n c) xs):0 < xs.length->∃ b off,A=some ⟨b,off,none⟩/\∀ k,k < xs.length->∃ u,w.cell? ⟨b,off + k,none⟩=some u/\R w u (xs.getD k d):=by
 obtain ⟨A',c',e,-,-,h3⟩:=h.open_
 cases e
 exact h3
theorem LAt.len_le {α:Type} {R:World->Value->α->Prop} {d:α} {w:World} {v:Value} {xs:List α} (h:LAt R d w v xs):(xs.length:Int)<=9223372036854775807:=by
 obtain ⟨A',c',e,h1,h2,-⟩:=h.open_
 omega
theorem jop {k:IntKind} {a c:Bool} {b d:Int} (h:a=c) (h' : b=d):Ending.returned (.tuple #[.bool a,.int k b])=Ending.returned (.tuple #[.bool c,.int k d]):=by rw [h,h']
end Go.Proofs
namespace Go.Proofs
open Go.RowKit Go.Shelf Go.Proofs.Ct Go.Maps
set_option maxRecDepth 100000 in
set_option maxHeartbeats 1000000 in
theorem jdw (w:World) (vr vs vt:Value) (g:Int) (rels sub:List W) (t:Tb) (hR:Tab w vr rels) (hS:Tab w vs sub) (ht:Tab w vt t) (hsm:∀ j,(rels.getD j []).length<=100000) (he:presE g rels ≠ 0):Calls Try.prog 44 #[.agg #[.int .i64 g,vr],vs,vt] w (jcr g rels sub t w):=by
 obtain ⟨Ar,cr,rfl⟩:=Tab.form hR
 obtain ⟨As,cs,rfl⟩:=Tab.form hS
 obtain ⟨At,ct,rfl⟩:=Tab.form ht
 have hb0:Below w.heap.size w (w.alloc (.cells #[.int .i64 g,.slice Ar rels.length cr] 40)):=(Below.refl _ _).alloc (Nat.le_refl _) _
 have HB0:=Lib.hid hb0
 have HN1:=Lib.hid (heap_alloc_new w (.cells #[.int .i64 g,.slice Ar rels.length cr] 40))
 have H95:=Lib.hid (jkn (w.alloc (.cells #[.int .i64 g,.slice Ar rels.length cr] 40)) _ g rels (jda.below hR hb0) hsm)
 have HE:Hid (holdsE g rels sub t=(false,presE g rels)):=Lib.hid (by unfold holdsE; rw [if_pos he])
 have d1:(presE g rels != 0)=true:=by simpa using he
 unfold jyw at H95
 clear hR hS ht hb0 hsm
 generalize presE g rels=x at *
 clear he
 go_enter Try.func44,Try.ntmps44
 go_wp2_with (first
   | ((with_reducible refine jea 15 ?_); refine jca rfl (jho 40 (.tmp 3) _ _ rfl rfl (jgeb HN1.out)) ?_)
   | (go_at_call 119; (with_reducible refine H95.out.mono ?_); rintro e w1 ⟨rfl,hb⟩; have HB1:=Lib.hid hb; clear hb))
 go_ret2
 exact ⟨jop (by rw [HE.out]) (by rw [HE.out]),HB0.out.trans (HB1.out.mono HB0.out.size)⟩
set_option maxRecDepth 100000 in
set_option maxHeartbeats 4000000 in
theorem jew (w:World) (vr vs vt:Value) (g:Nat) (rels sub:List W) (t:Tb) (hR:Tab w vr rels) (hS:Tab w vs sub) (ht:Tab w vt t) (hsm:∀ j,(rels.getD j []).length<=100000) (hg16:g<=16) (he:presE g rels=0):Calls Try.prog 44 #[.agg #[.int .i64 (g:Int),vr],vs,vt] w (jcr g rels sub t w):=by
 obtain ⟨Ar,cr,rfl⟩:=Tab.form hR
 obtain ⟨As,cs,rfl⟩:=Tab.form hS
 obtain ⟨At,ct,rfl⟩:=Tab.form ht
 have hb0:Below w.heap.size w (w.alloc (.cells #[.int .i64 (g:Int),.slice Ar rels.length cr] 40)):=(Below.refl _ _).alloc (Nat.le_refl _) _
 have HB0:=Lib.hid hb0
 have HN1:=Lib.hid (heap_alloc_new w (.cells #[.int .i64 (g:Int),.slice Ar rels.length cr] 40))
 have hlt0:w.heap.size < (w.alloc (.cells #[.int .i64 (g:Int),.slice Ar rels.length cr] 40)).heap.size:=by simp
 have HLT0:=Lib.hid hlt0
 have H95:Hid (Calls Try.prog 119 #[.agg #[.int .i64 (g:Int),.slice Ar rels.length cr]] (w.alloc (.cells #[.int .i64 (g:Int),.slice Ar rels.length cr] 40)) fun e w'=>e=.returned (.int .i64 0)/\Below (w.alloc (.cells #[.int .i64 (g:Int),.slice Ar rels.length cr] 40)).heap.size (w.alloc (.cells #[.int .i64 (g:Int),.slice Ar rels.length cr] 40)) w') :=
   Lib.hid ((jkn (w.alloc (.cells #[.int .i64 (g:Int),.slice Ar rels.length cr] 40)) _ g rels (jda.below hR hb0) hsm).mono fun e w' ⟨h1,h2⟩=>by rw [he] at h1; exact ⟨h1,h2⟩)
 have HE1:Hid ((sub.any fun w=>w.any (jxa g))=true->holdsE g rels sub t=(false,2)):=Lib.hid fun h=>by unfold holdsE; rw [if_neg (by rw [he]; simp),Int.toNat_natCast,if_pos h]
 have HE2:Hid ((sub.any fun w=>w.any (jxa g))=false->(check g t).1 ≠ 0->holdsE g rels sub t=(false,(check g t).1)):=Lib.hid fun h h2=>by unfold holdsE; rw [if_neg (by rw [he]; simp),Int.toNat_natCast,if_neg (by rw [h]; simp),if_pos h2]
 have HE3:Hid ((sub.any fun w=>w.any (jxa g))=false->(check g t).1=0->holdsE g rels sub t=(jeh rels sub t,0)):=Lib.hid fun h h2=>by unfold holdsE; rw [if_neg (by rw [he]; simp),Int.toNat_natCast,if_neg (by rw [h]; simp),if_neg (by rw [h2]; simp)]
 have HRC:=Lib.hid hR.cells
 have HSC:=Lib.hid hS.cells
 have hrl1:=hR.len_le
 have hsl1:=hS.len_le
 have HRL:Hid (∀ j,j < rels.length->jpk g (rels.getD j [])):=Lib.hid fun j hj=>by
   obtain ⟨gn,e,-,-,-,h⟩:=jgg he
   obtain rfl:g=gn:=by omega
   exact (h j hj).1
 have hrl0:(0:Int)<=(rels.length:Int):=Int.natCast_nonneg _
 have htl0:(0:Int)<=(t.length:Int):=Int.natCast_nonneg _
 have hsl0:(0:Int)<=(sub.length:Int):=Int.natCast_nonneg _
 have HTT:=Lib.hid ht
 have HG16:=Lib.hid hg16
 clear hR hS ht hb0 hsm he hlt0
 go_enter Try.func44,Try.ntmps44
 go_wp2_with (first
   | ((with_reducible refine jea 15 ?_); refine jca rfl (jho 40 (.tmp 3) _ _ rfl rfl (jgeb HN1.out)) ?_)
   | (go_at_call 119; (with_reducible refine H95.out.mono ?_); rintro e w1 ⟨rfl,hb⟩
      obtain ⟨p0,p1⟩:=jde ((hb.block _ HLT0.out).trans HN1.out)
      have HB1:=Lib.hid (HB0.out.trans (hb.mono HB0.out.size))
      clear hb))
 clear H95 HN1 HLT0 HB0
 go_loopw [9] (fun i wr=>∃ k:Nat,i=.int .i64 k/\k<=sub.length/\Hid (∀ j,j < k->(sub.getD j []).any (jxa g)=false)/\∃ q,wr=w1.drewN q) (fun i _=>sub.length - (intOf i).toNat)
 case atStart=>exact ⟨0,rfl,by omega,Lib.hid fun j hj=>absurd hj (by omega),0,rfl⟩
 case round =>
   obtain ⟨k,rfl,hk,HZ,q,rfl⟩:=hrel
   have hk0:(0:Int)<=(k:Int):=Int.natCast_nonneg _
   by_cases hlt:k < sub.length
   · have hlt' : (k:Int) < (sub.length:Int):=by omega
     obtain ⟨b,o,rfl,hcc⟩:=HSC.out (by omega)
     obtain ⟨u,hu,hI⟩:=hcc k hlt
     have hu':=(HB1.out.cell (p:=⟨b,o + k,none⟩) (World.block_lt_of_cell? w _ hu)).trans hu
     have HI:=Lib.hid (hI.below HB1.out)
     obtain ⟨Au,cu,rfl,-,-,-⟩:=hI.open_
     have H96:Hid (∀ n,Calls Try.prog 120 #[.int .i64 (g:Int),.slice Au (sub.getD k []).length cu] (w1.drewN n) fun e w'=>e=.returned (.bool (!((sub.getD k []).any (jxa g))))/\w1.drewN n=w'):=Lib.hid fun n=>(jrl (w1.drewN n) g _ (sub.getD k []) HG16.out (HI.out.drewN n)).mono fun e w' ⟨h,h'⟩=>⟨h,h'.symm⟩
     have HN:Hid ((sub.getD k []).any (jxa g)=false->∀ j,j < k + 1->(sub.getD j []).any (jxa g)=false):=Lib.hid fun h=>jeb HZ.out h
     have HF:Hid ((sub.getD k []).any (jxa g)=true->holdsE g rels sub t=(false,2)):=Lib.hid fun h=>HE1.out (jxn (p:=fun w=>w.any (jxa g)) hlt h)
     clear hcc hu hI HI
     generalize (sub.getD k []).any (jxa g)=lb at *
     generalize (sub.getD k []).length=L at *
     cases lb with
     | true =>
       have HF2:=Lib.hid (HF.out rfl)
       go_wp2_with fail
       go_quiet ((go_at_call 120; exact jza (H96.out _)))
       go_wp2_with fail
       go_ret2
       exact ⟨jop (by rw [HF2.out]) (by rw [HF2.out]),below_drewN (below_drewN HB1.out _) _⟩
     | false =>
       have HN2:=Lib.hid (HN.out rfl)
       go_wp2_with fail
       go_quiet ((go_at_call 120; exact jza (H96.out _)))
       go_wp2_with fail
       go_roundw
       case rel=>exact ⟨k + 1,by go_num,by omega,HN2,(by first | exact ⟨_,rfl⟩ | exact job)⟩
       case measure=>simp [intOf]; omega
   · obtain rfl:k=sub.length:=by omega
     have hs:=jii (p:=fun w=>w.any (jxa g)) HZ.out
     have HSL:=Lib.hid (jyo hs)
     have HE2':=Lib.hid (HE2.out hs)
     have HE3':=Lib.hid (HE3.out hs)
     have H44:Hid (∀ n,Calls Try.prog 52 #[.int .i64 (g:Int),.slice At t.length ct] (w1.drewN n) fun e w'=>(∃ y,e=.returned (.tuple #[.int .i64 (check g t).1,.int .i64 y]))/\∃ q,w'=(w1.drewN n).drewN q):=Lib.hid fun n=>(check44_any (w1.drewN n) _ _ t (jda.below HTT.out (below_drewN HB1.out n))).mono fun e w' ⟨a,b⟩=>⟨⟨_,a⟩,b⟩
     have H46:Hid (∀ n,Calls Try.prog 54 #[.slice At t.length ct] (w1.drewN n) fun e w'=>e=.returned (.bool (jdd t))/\∃ q,w'=(w1.drewN n).drewN q):=Lib.hid fun n=>jok (w1.drewN n) _ t (jda.below HTT.out (below_drewN HB1.out n))
     clear hs HE1 HE2 HE3
     by_cases hc:(check g t).1=0
     · have HE := Lib.hid (HE3'.out hc)
       rw [hc] at H44
       have HG:=Lib.hid (jzm hc).2.1
       rw [Int.toNat_natCast] at HG
       clear hc HE2' HE3'
       cases hp:jdd t with
       | false =>
         have HP:=Lib.hid (jrbb (rels:=rels) (sub:=sub) hp)
         rw [hp] at H46
         clear hp
         go_wp2_with (first
           | (go_at_call 52; (with_reducible refine (H44.out _).mono ?_); rintro e w' ⟨⟨y,rfl⟩,q1,rfl⟩)
           | (go_at_call 54; (refine (H46.out _).mono ?_); rintro e w' ⟨rfl,q2,rfl⟩))
         go_ret2
         exact ⟨jop (by rw [HE.out,HP.out]) (by rw [HE.out]),below_drewN HB1.out _⟩
       | true =>
         have HCP:=Lib.hid hp
         have HPOS:Hid (∀ r,r < t.length->∀ c,c < 2 * g->0<=t.at r c):=Lib.hid fun r hr c hc=>by
           have h1:=jun hp r hr c (by rw [HG.out.len r hr]; exact hc)
           have h2:=HG.out.bd r hr c hc
           have h3:t.at r c ≠ -1:=h1
           omega
         rw [hp] at H46
         have hn2:=HG.out.n2
         clear hp
         go_wp2_with (first
           | (go_at_call 52; (with_reducible refine (H44.out _).mono ?_); rintro e w' ⟨⟨y,rfl⟩,q1,rfl⟩)
           | (go_at_call 54; (refine (H46.out _).mono ?_); rintro e w' ⟨rfl,q2,rfl⟩))
         have HQ0:Hid (∃ q',(w1.drewN (q + q1 + q2))=w1.drewN q'):=Lib.hid ⟨_,rfl⟩
         go_loopw [12] (fun i wr=>∃ r:Nat,i=.int .i64 r/\r<=t.length/\Hid (∀ j,j < r->jfl t (j:Int) rels=true)/\∃ q,wr=w1.drewN q) (fun i _=>t.length - (intOf i).toNat)
         case atStart=>exact ⟨0,rfl,by omega,Lib.hid fun j hj=>absurd hj (by omega),(by first | exact ⟨_,rfl⟩ | exact job)⟩
         case round =>
           clear HQ0
           rename Nat=>qq
           obtain ⟨r,rfl,hr,HZR,q,rfl⟩:=hrel
           have hr0:(0:Int)<=(r:Int):=Int.natCast_nonneg _
           by_cases hrl:r < t.length
           · have hrl' : (r:Int) < (t.length:Int):=by omega
             go_wp2_with fail
             go_loopw [13] (fun i wr=>∃ k:Nat,i=.int .i64 k/\k<=rels.length/\Hid (∀ j,j < k->leads t r (rels.getD j [])=r)/\∃ q,wr=w1.drewN q) (fun i _=>rels.length - (intOf i).toNat)
             case atStart=>exact ⟨0,rfl,by omega,Lib.hid fun j hj=>absurd hj (by omega),(by first | exact ⟨_,rfl⟩ | exact job)⟩
             case round =>
               obtain ⟨k,rfl,hk,HZK,q5,rfl⟩:=hrel
               have hk0:(0:Int)<=(k:Int):=Int.natCast_nonneg _
               by_cases hlt:k < rels.length
               · have hlt' : (k:Int) < (rels.length:Int):=by omega
                 obtain ⟨b,o,rfl,hcc⟩:=HRC.out (by omega)
                 obtain ⟨u,hu,hI⟩:=hcc k hlt
                 have hu':=(HB1.out.cell (p:=⟨b,o + k,none⟩) (World.block_lt_of_cell? w _ hu)).trans hu
                 have HI:=Lib.hid (hI.below HB1.out)
                 obtain ⟨Au,cu,rfl,-,-,-⟩:=hI.open_
                 have h97:=jdq (w1.drewN q5) (.slice At t.length ct) (.slice Au (rels.getD k []).length cu) g t r (rels.getD k []) (jda.below HTT.out (below_drewN HB1.out q5)) (HI.out.drewN q5) HG.out HPOS.out (HRL.out k hlt) hrl
                 have HN:Hid (leads t r (rels.getD k [])=r->∀ j,j < k + 1->leads t r (rels.getD j [])=r):=Lib.hid fun h=>jeb HZK.out h
                 have HF:Hid (leads t r (rels.getD k []) ≠ r->jeh rels sub t=false):=Lib.hid fun h=>jbfb hrl hlt h
                 have H97:=Lib.hid h97
                 clear hcc hu hI h97 HI
                 generalize rels.getD k []=ws at *
                 generalize leads t r ws=l at *
                 by_cases hz:l=r
                 · have d1:(l != (r:Int))=false:=by simpa using hz
                   have HN2:=Lib.hid (HN.out hz)
                   clear hz HN HF
                   go_wp2_with (go_at_call 121; (with_reducible refine H97.out.mono ?_); rintro e w' ⟨rfl,q6,rfl⟩)
                   go_roundw
                   case rel=>exact ⟨k + 1,by go_num,by omega,HN2,(by first | exact ⟨_,rfl⟩ | exact job)⟩
                   case measure=>simp [intOf]; omega
                 · have d1:(l != (r:Int))=true:=by simpa using hz
                   have HF2:=Lib.hid (HF.out hz)
                   clear hz HN HF
                   go_wp2_with (go_at_call 121; (with_reducible refine H97.out.mono ?_); rintro e w' ⟨rfl,q6,rfl⟩)
                   go_ret2
                   exact ⟨jop (by rw [HE.out,HF2.out]) (by rw [HE.out]),below_drewN HB1.out _⟩
               · obtain rfl:k=rels.length:=by omega
                 go_wp2_with fail
                 go_roundw
                 case rel=>exact ⟨r + 1,by go_num,by omega,Lib.hid (jeb HZR.out (jap HZK.out)),(by first | exact ⟨_,rfl⟩ | exact job)⟩
                 case measure=>simp [intOf]; omega
           · obtain rfl:r=t.length:=by omega
             go_wp2_with fail
             go_loopw [14] (fun i wr=>∃ k:Nat,i=.int .i64 k/\k<=sub.length/\Hid (∀ j,j < k->leads t 0 (sub.getD j [])=0)/\∃ q,wr=w1.drewN q) (fun i _=>sub.length - (intOf i).toNat)
             case atStart=>exact ⟨0,rfl,by omega,Lib.hid fun j hj=>absurd hj (by omega),(by first | exact ⟨_,rfl⟩ | exact job)⟩
             case round =>
               clear hlt hk0
               obtain ⟨k,rfl,hk,HZK,q5,rfl⟩:=hrel
               have hk0:(0:Int)<=(k:Int):=Int.natCast_nonneg _
               by_cases hlt:k < sub.length
               · have hlt' : (k:Int) < (sub.length:Int):=by omega
                 obtain ⟨b,o,rfl,hcc⟩:=HSC.out (by omega)
                 obtain ⟨u,hu,hI⟩:=hcc k hlt
                 have hu':=(HB1.out.cell (p:=⟨b,o + k,none⟩) (World.block_lt_of_cell? w _ hu)).trans hu
                 have HI:=Lib.hid (hI.below HB1.out)
                 obtain ⟨Au,cu,rfl,-,-,-⟩:=hI.open_
                 have h97:Calls Try.prog 121 #[.slice At t.length ct,.int .i64 0,.slice Au (sub.getD k []).length cu] (w1.drewN q5) fun e w'=>e=.returned (.int .i64 (leads t 0 (sub.getD k [])))/\∃ q,w'=(w1.drewN q5).drewN q :=
                   jdq (w1.drewN q5) (.slice At t.length ct) (.slice Au (sub.getD k []).length cu) g t 0 (sub.getD k []) (jda.below HTT.out (below_drewN HB1.out q5)) (HI.out.drewN q5) HG.out HPOS.out (HSL.out k hlt) (by have:=HG.out.n1; omega)
                 have HN:Hid (leads t 0 (sub.getD k [])=0->∀ j,j < k + 1->leads t 0 (sub.getD j [])=0):=Lib.hid fun h=>jeb HZK.out h
                 have HF:Hid (leads t 0 (sub.getD k []) ≠ 0->jeh rels sub t=false):=Lib.hid fun h=>jafb hlt h
                 have H97:=Lib.hid h97
                 clear hcc hu hI h97 HI
                 generalize sub.getD k []=ws at *
                 generalize leads t 0 ws=l at *
                 by_cases hz:l=0
                 · have d1:(l != 0)=false:=by simpa using hz
                   have HN2:=Lib.hid (HN.out hz)
                   clear hz HN HF
                   go_wp2_with (go_at_call 121; (with_reducible refine H97.out.mono ?_); rintro e w' ⟨rfl,q6,rfl⟩)
                   go_roundw
                   case rel=>exact ⟨k + 1,by go_num,by omega,HN2,(by first | exact ⟨_,rfl⟩ | exact job)⟩
                   case measure=>simp [intOf]; omega
                 · have d1:(l != 0)=true:=by simpa using hz
                   have HF2:=Lib.hid (HF.out hz)
                   clear hz HN HF
                   go_wp2_with (go_at_call 121; (with_reducible refine H97.out.mono ?_); rintro e w' ⟨rfl,q6,rfl⟩)
                   go_ret2
                   exact ⟨jop (by rw [HE.out,HF2.out]) (by rw [HE.out]),below_drewN HB1.out _⟩
               · obtain rfl:k=sub.length:=by omega
                 go_wp2_with fail
                 go_ret2
                 exact ⟨jop (by rw [HE.out,jqbb HCP.out HZK.out HZR.out]) (by rw [HE.out]),below_drewN HB1.out _⟩
     · have HE:=Lib.hid (HE2'.out hc)
       have d1:((check g t).1 != 0)=true:=by simpa using hc
       clear HE2' HE3'
       generalize (check g t).1=x at *
       clear hc
       go_wp2_with (go_at_call 52; (with_reducible refine (H44.out _).mono ?_); rintro e w' ⟨⟨y,rfl⟩,q1,rfl⟩)
       go_ret2
       exact ⟨jop (by rw [HE.out]) (by rw [HE.out]),below_drewN HB1.out _⟩
theorem jdy (w:World) (vr vs vt:Value) (g:Int) (rels sub:List W) (t:Tb) (hR:Tab w vr rels) (hS:Tab w vs sub) (ht:Tab w vt t) (hsm:∀ j,(rels.getD j []).length<=100000):Calls Try.prog 44 #[.agg #[.int .i64 g,vr],vs,vt] w (jcr g rels sub t w):=by
 by_cases he:presE g rels=0
 · obtain ⟨gn,rfl,h1,h2,-,-⟩:=jgg he
   exact jew w vr vs vt gn rels sub t hR hS ht hsm h2 he
 · exact jdw w vr vs vt g rels sub t hR hS ht hsm he
end Go.Proofs
namespace Go.Proofs
open Go.RowKit Go.Shelf Go.Proofs.Ct Go.Maps
def zero99:Array Value := #[.int .i64 0,.slice none 0 0,.slice none 0 0,.slice none 0 0,.int .i64 0]
section
variable {o:Oper} {a:Act} {w w' : World} {n:Nat} {v:Value}
end
def XE (w:World) (b:Nat) (x:List Int):Prop:=w.heap[b]?=some (.cells (ints x).toArray 3 (0,0))
end Go.Proofs
namespace Go.Proofs
open Go.RowKit Go.Shelf Go.Proofs.Ct Go.Maps
structure RowsSt (G:Int) (vt vr:Value) (F:Nat->Prop) (w1 W:World) (vn:Value) (n:Int) (rows:List (List Int)):Prop where
 st:OutSt 24 F w1 W vn rows
 box:W.heap[w1.heap.size]?=some (.cells #[.int .i64 G,vt,vr,vn,.int .i64 n] 106 (0,0))
section
variable {G:Int} {vt vr:Value} {F:Nat->Prop} {w1 W:World} {vn:Value} {n:Int} {rows:List (List Int)}
end
structure SysR (w:World) (vt vr vn:Value) (t:Tb) (R N:List (List Int)):Prop where
 tab:Tab w vt t
 reps:Tab w vr R
 nums:Tab w vn N
end Go.Proofs
namespace Go.Proofs
open Go.RowKit Go.Shelf Go.Proofs.Ct Go.Maps
def ListSt (w0 wr:World) (so:Value) (X:List Int):Prop:=OwnI w0.heap.size wr so X/\Below w0.heap.size w0 wr
end Go.Proofs
namespace Go.Proofs
open Go.RowKit Go.Shelf Go.Proofs.Ct Go.Maps
def jvb:Array Value := #[.int .i64 0,.slice none 0 0]
theorem jekb (w:World):(Instr.alloc 40 true (.tuple #[])).run Try.prog w=.ok (.pointer (some ⟨w.heap.size,0,none⟩)) (w.alloc (.cells jvb 40)):=by kernel_rfl
theorem jcy:(Try.prog.info? 40).map (·.size)=some 2:=by kernel_rfl
theorem jmi (A:Option Addr) (n a:Nat) (x:Int):(#[Value.int .i64 x,.slice A n a]:Array Value).all (·.oneCell')=true:=by simp [Value.oneCell']
section
variable {o:Oper} {a:Act} {w w' : World} {n:Nat} {v:Value}
theorem jac (x y:Operand) (ho:o.op=.store 40 x y) (g:Nat) (old c' : Array Value) (hx:a.eval x=.pointer (some ⟨g,0,none⟩)) (hy:a.eval y=.agg c') (hg:w.heap[g]?=some (.cells old 40 (0,0)))
   (hi:c'.size=2) (hoo:old.size=2) (h1:c'.all (·.oneCell')=true):(execOp a.eval o).run Try.prog w=.ok .skip (w.setRow g c'):=by
 unfold execOp
 simp only [ho,hx,hy,Instr.storeAt,Instr.sureAddr,Sem.run_bind,Sem.run_pure,Result.andThen_ok,run_storeVar_row w g 40 40 old c' hg (by rw [hi]; exact jcy) (by rw [hi,hoo]) h1]
theorem jbc (ho:o.op=.alloc 40):(execOp a.eval o).run Try.prog w=.ok (.value (.pointer (some ⟨w.heap.size,0,none⟩))) (w.alloc (.cells jvb 40)):=by
 have hb:=jekb w
 unfold execOp
 simp only [ho,Sem.run_bind,hb,Result.andThen_ok]
 rfl
end
theorem jya {fn:Func} {p q:Tmp} (h:fn.results = #[.cell p 40,.tmp q]) (tmps:Array Value) (w:World) (g:Nat) (cs:Array Value) (u:Value)
   (hp:tmps.getD p undef=.pointer (some ⟨g,0,none⟩)) (hq:tmps.getD q undef=u) (hg:w.heap[g]?=some (.cells cs 40 (0,0))) (hs:cs.size=2) :
   (results fn tmps).run Try.prog w=.ok (.tuple #[.agg cs,u]) w:=by
 have hp' : tmps[p]?.getD undef=.pointer (some ⟨g,0,none⟩):=by simpa using hp
 have hq' : tmps[q]?.getD undef=u:=by simpa using hq
 simp [results,h,hp',hq',asAddr,run_loadVar_row w g 40 40 cs (0,0) _ hg Try.underlying40 rfl (by rw [hs]; exact jcy)]
structure PrSt (F:Nat->Prop) (w0:World) (m:Int) (wr:World) (A:Option Addr) (c:Nat) (acc:List W):Prop where
 out:OutSt 25 F w0 wr (.slice A acc.length c) acc
 box:wr.heap[w0.heap.size]?=some (.cells #[.int .i64 m,.slice A acc.length c] 40 (0,0))
end Go.Proofs
namespace Go.Proofs
open Go.RowKit Go.Shelf Go.Proofs.Ct Go.Maps
theorem below_setRow {B:Nat} {w w1:World} (h:Below B w w1) {g:Nat} (hg:B<=g) (cs:Array Value):Below B w (w1.setRow g cs) :=
 h.trans ⟨rfl,rfl,rfl,by rw [World.setRow]; simp,fun k hk=>setRow_other _ _ k _ (by omega)⟩
end Go.Proofs
namespace Go.Proofs
open Go.RowKit Go.Shelf Go.Proofs.Ct Go.Maps
theorem jyj (w:World) (xs:List Int) (hf:Fits xs) (n:Nat) (hn:xs.length=n) (hm:n<=1000):jma (w.alloc (.cells (ints xs).toArray 3)) (.slice (some ⟨w.heap.size,0,none⟩) n n) xs:=by
 subst hn
 refine ⟨⟨_, xs.length, xs.length, rfl, by simp [ints], Nat.le_refl _, by have:xs.length<=9223372036854775807:=by omega
                                                                          simpa [maxLen] using this,fun _=>⟨w.heap.size,0,rfl,fun j u hu => ?_⟩⟩,hf⟩
 rw [cell_of_row _ _ _ _ _ _ (heap_alloc_new w _),Nat.zero_add]
 simpa using hu
theorem jrcb (w:World) (u v z:Value) (x y q:List Int) (hu:jma w u x) (hv:jma w v y) (hz:jma w z q) {e:TypeId}:Tab (w.alloc (.cells #[u,v,z] e)) (.slice (some ⟨w.heap.size,0,none⟩) 3 3) [x,y,q]:=by
 have hb:Below w.heap.size w (w.alloc (.cells #[u,v,z] e)):=(Below.refl _ _).alloc (Nat.le_refl _) _
 refine ⟨[u,v,z],⟨_,3,3,rfl,rfl,Nat.le_refl _,by simp [maxLen],fun _=>⟨w.heap.size,0,rfl,fun j a ha => ?_⟩⟩,rfl,fun i hi => ?_⟩
 · rw [cell_of_row _ _ _ _ _ _ (heap_alloc_new w _),Nat.zero_add]
   simpa using ha
 · have:i=0\/i=1\/i=2:=by simp at hi; omega
   rcases this with rfl | rfl | rfl
   · exact ⟨u,rfl,hu.below hb⟩
   · exact ⟨v,rfl,hv.below hb⟩
   · exact ⟨z,rfl,hz.below hb⟩
end Go.Proofs
namespace Go.Proofs
open Go.RowKit Go.Shelf Go.Proofs.Ct Go.Maps
structure SameM (a0:Act) (dm:Nat->Nat) (N:Nat) (a:Act):Prop where
 size:a.tmps.size=a0.tmps.size
 defers:a.defers=a0.defers
 out:∀ t,(∀ i,i < N->dm i ≠ t)->a.tmps.getD t undef=a0.tmps.getD t undef
structure Tailed1 (ops:Array Oper) (N:Nat):Prop where
 size:ops.size=N + 1
 lex:∀ (i:Nat) (o:Oper),ops[i]?=some o->∀ e ∈ o.after.toList,e.on < i
 succ:∀ i,i < N->∃ (j:Nat) (o:Oper),i < j/\j<=N/\ops[j]?=some o/\∃ e ∈ o.after.toList,e.on=i/\Region.binds .any e=true
section
variable {F:Fence} {n:Nat} {P:Program} {ops:Array Oper} {Q:Exit->Act->World->Prop}
end
section
variable {n:Nat} {ops:Array Oper} {Q:Exit->Act->World->Prop} {i:Nat} {o:Oper} {K:Act->World->Prop} {a:Act} {w:World}
end
section
variable {o:Oper} {a:Act} {w w' : World} {n:Nat} {next:Act->World->Prop} {Q:Exit->Act->World->Prop} {v:Value}
theorem jba (hrun:(execOp a.eval o).run Try.prog w=.ok (.value v) w') (h:next (a.put o.dst v) w'):o.wpIn Fence.wide n Try.prog a w next Q :=
 ⟨fun _ _=>trivial,by rw [Fence.wide_round,Oper.semAt_none,hrun]; exact h⟩
theorem jje {f:FuncId} {args:Array Value} {R:Value->World->Prop} (hrun:(execOp a.eval o).run Try.prog w=.ok (.enter f args) w')
   (hc:Calls Try.prog f args w' fun e w''=>∃ v,e=.returned v/\R v w'') (h:∀ v w'',R v w''->next (a.put o.dst v) w''):o.wpIn Fence.wide n Try.prog a w next Q :=
 ⟨fun _ _=>trivial,by
   rw [Fence.wide_round,Oper.semAt_none,hrun]
   refine ⟨fun hh=>by simp [Fence.wide] at hh,callsIn_wide.2 (hc.mono ?_)⟩
   rintro e w'' ⟨v,rfl,hR⟩
   exact h v w'' hR⟩
end
end Go.Proofs
namespace Go.Proofs
open Go.RowKit Go.Shelf Go.Proofs.Ct Go.Maps
structure Part (a0:Act) (dm:Nat->Option Tmp) (N:Nat) (ls:Nat->Bool) (a:Act):Prop where
 size:a.tmps.size=a0.tmps.size
 defers:a.defers=a0.defers
 out:∀ t,(∀ i,i < N->ls i=true->dm i ≠ some t)->a.tmps.getD t undef=a0.tmps.getD t undef
theorem Part.put {a0 a:Act} {dm:Nat->Option Tmp} {N i:Nat} {ls:Nat->Bool} (h:Part a0 dm N ls a) (hi:i < N) (v:Value):Part a0 dm N (fun j=>if i=j then true else ls j) (a.put (dm i) v):=by
 refine ⟨?_, ?_,fun t ht => ?_⟩
 · cases hd:dm i with
   | none=>exact h.size
   | some t=>simpa [Act.put] using h.size
 · cases hd:dm i with
   | none=>exact h.defers
   | some t=>exact h.defers
 · have h1:∀ j,j < N->ls j=true->dm j ≠ some t:=fun j hj hl=>ht j hj (by simp [hl])
   have h2:=ht i hi (by rw [if_pos rfl])
   rw [<- h.out t h1]
   cases hd:dm i with
   | none=>rfl
   | some t'=>exact jvk _ _ _ _ (fun e=>h2 (by rw [hd,e]))
def jti (a:Act):Option Tmp->Value
 | some t=>a.tmps.getD t undef
 | none=>undef
def lexB (ops:Array Oper):Bool:=(List.range ops.size).all fun i=>match ops[i]? with | some o=>o.after.toList.all fun e=>decide (e.on < i) || !Region.binds .any e | none=>true
theorem jze {ops:Array Oper} (h:lexB ops=true):∀ (i:Nat) (o:Oper),ops[i]?=some o->∀ e ∈ o.after.toList,Region.binds .any e=true->e.on < i:=fun i o ho e he hb=>by
 unfold lexB at h
 rw [List.all_eq_true] at h
 have hi:i < ops.size:=(Array.getElem?_eq_some_iff.1 ho).1
 have:=h i (by simpa using hi)
 rw [ho] at this
 rw [List.all_eq_true] at this
 have h2:=this e he
 rw [hb] at h2
 simpa using h2
section
variable {F:Fence} {n:Nat} {P:Program} {ops:Array Oper} {Q:Exit->Act->World->Prop}
theorem jra {id:Nat} {a0:Act} {w:World} (hm:P.follows .mixedOrders=true) (N:Nat) (hN:ops.size=N) (dm:Nat->Option Tmp) (hlex:∀ (i:Nat) (o:Oper),ops[i]?=some o->∀ e ∈ o.after.toList,Region.binds .any e=true->e.on < i)
   (S:(Nat->Bool)->World->Prop) (Φ:Nat->Value->World->Prop) (G:Nat->World->World->Prop)
   (hdm:∀ i j t,i < N->j < N->dm i=some t->dm j=some t->i=j)
   (hΦ:∀ i j v w w',i < N->j < N->i ≠ j->G i w w'->Φ j v w->Φ j v w')
   (hsz:∀ i t,i < N->dm i=some t->t < a0.tmps.size) (h0:S (fun _=>false) w.drew)
   (hop:∀ (ls:Nat->Bool) (i:Nat) (o:Oper) (a:Act) (w:World),i < N->ops[i]?=some o->S ls w->ls i=false->(∀ (j:Nat) (oj:Oper),ops[j]?=some oj->ls j=true->∀ e ∈ oj.after.toList,Region.binds .any e=true->ls e.on=true)->Part a0 dm N ls a ->
     (∀ e ∈ o.after.toList,Region.binds .any e=true->ls e.on=true/\Φ e.on (jti a (dm e.on)) w) ->
     wpOpIn F n P ops Q i (fun a' w'=>∃ v,a'=a.put (dm i) v/\S (fun j=>if i=j then true else ls j) w'/\G i w w'/\(dm i=none->v=undef)/\Φ i v w') a w)
   (hend:∀ (ls:Nat->Bool) (a:Act) (w:World),(∀ i,i < N->ls i=true)->S ls w->Part a0 dm N ls a->(∀ i,i < N->Φ i (jti a (dm i)) w)->Q .normal a w) :
   (Code.region id ops true).wpIn F n P Q a0 w:=by
 subst hN
 refine wpIn_region_any hm ?_
 refine jqo (fun listed a w=>Closed ops listed/\S (fun j=>listed.getD j false) w/\Part a0 dm ops.size (fun j=>listed.getD j false) a/\∀ i,i < ops.size->listed.getD i false=true->Φ i (jti a (dm i)) w) ?_ ?_ ops.size _ a0 _ (by simp) ?_ ⟨fun i o ho h => ?_, ?_,⟨rfl,rfl,fun _ _=>rfl⟩,fun i hi h => ?_⟩
 · rintro listed a w i hls ⟨hcl,hS,hP,hsl⟩ hi
   obtain ⟨h1,h2,o,ho,hpre⟩:=jll hi
   rw [jwe (by omega)] at h2
   have hsetD:∀ j,(listed.setIfInBounds i true).getD j false=if i=j then true else listed.getD j false:=fun j=>jhj (by omega)
   have hcl' : Closed ops (listed.setIfInBounds i true):=fun j oj hoj hl e he hb=>by
     rw [hsetD] at hl ⊢
     by_cases eij:i=j
     · subst eij
       rw [ho] at hoj; cases hoj
       have:=hpre e he hb
       split
       · rfl
       · exact this
     · rw [if_neg eij] at hl
       have:=hcl j oj hoj hl e he hb
       split
       · rfl
       · exact this
   have hwp:=hop _ i o a w h1 ho hS h2 (fun j oj hoj hl=>hcl j oj hoj hl) hP (fun e he hb=>⟨hpre e he hb,hsl e.on (by have:=hlex i o ho e he hb; omega) (hpre e he hb)⟩)
   refine wpOpIn_mono (fun a' w' h => ?_) hwp
   obtain ⟨v,rfl,hS',hG,hvn,hv⟩:=h
   rw [show (fun j=>if i=j then true else listed.getD j false)=(fun j=>(listed.setIfInBounds i true).getD j false) from (funext hsetD).symm] at hS'
   have hP':=hP.put h1 v
   rw [show (fun j=>if i=j then true else listed.getD j false)=(fun j=>(listed.setIfInBounds i true).getD j false) from (funext hsetD).symm] at hP'
   refine ⟨hcl',hS',hP',fun j hj hl => ?_⟩
   by_cases e:i=j
   · subst e
     have:jti (a.put (dm i) v) (dm i)=v:=by
       cases hdi:dm i with
       | none=>rw [hvn hdi]; rfl
       | some t=>exact jml _ _ _ (by rw [hP.size]; exact hsz i t h1 hdi)
     rw [this]
     exact hv
   · rw [hsetD,if_neg e] at hl
     have:=hΦ i j _ _ _ h1 hj e hG (hsl j hj hl)
     have hv' : jti (a.put (dm i) v) (dm j)=jti a (dm j):=by
       cases hdj:dm j with
       | none=>rfl
       | some t =>
         cases hdi:dm i with
         | none=>rfl
         | some t'=>exact jvk _ _ _ _ (fun e'=>e (hdm i j t h1 hj (by rw [hdi,e']) hdj))
     rw [hv']
     exact this
 · rintro listed a w hls ⟨hcl,hS,hP,hsl⟩ hr
   have hready:∀ i,i < ops.size->listed.getD i false=true:=by
     intro i
     induction i using Nat.strongRecOn with
     | _ i ih =>
       intro hi
       rcases hl:listed.getD i false with _ | _
       · have hmem:i ∈ Region.ready .any ops listed:=by
           simp only [Region.ready,List.mem_filter,List.mem_range,Bool.and_eq_true,Bool.not_eq_true']
           refine ⟨hi,by rw [jwe (by omega)]; exact hl, ?_⟩
           rw [Array.getElem?_eq_getElem hi]
           simp only [Option.map_some,Option.getD_some]
           rw [Array.all_eq_true_iff_forall_mem]
           intro e he
           by_cases hb:Region.binds .any e=true
           · have hlt:=hlex i _ (Array.getElem?_eq_getElem hi) e (by simpa using he) hb
             simp [ih e.on hlt (by omega)]
           · simp [hb]
         rw [hr] at hmem; cases hmem
       · rfl
   exact hend _ a w hready hS hP (fun i hi=>hsl i hi (hready i hi))
 · simp
 · have:(Array.replicate ops.size false).getD i false=false:=by
     simp only [Array.getD_eq_getD_getElem?,Array.getElem?_replicate]; split <;> rfl
   rw [this] at h; cases h
 · rw [show (fun j=>(Array.replicate ops.size false).getD j false)=(fun _=>false) from funext fun j=>by simp only [Array.getD_eq_getD_getElem?,Array.getElem?_replicate]; split <;> rfl]
   exact h0
 · have:(Array.replicate ops.size false).getD i false=false:=by
     simp only [Array.getD_eq_getD_getElem?,Array.getElem?_replicate]; split <;> rfl
   rw [this] at h; cases h
end
theorem jka {ops:Array Oper} {ls:Nat->Bool} (hcl:∀ (j:Nat) (oj:Oper),ops[j]?=some oj->ls j=true->∀ e ∈ oj.after.toList,Region.binds .any e=true->ls e.on=true) (j:Nat) {oj:Oper} (hoj:ops[j]?=some oj) (e:Edge) (he:e ∈ oj.after.toList) (hb:Region.binds .any e=true) (h:ls e.on=false):ls j=false:=by
 cases hj:ls j with
 | false=>rfl
 | true=>rw [hcl j oj hoj hj e he hb] at h; cases h
theorem jpa {dm:Nat->Option Tmp} {N t:Nat} {ls:Nat->Bool} (h:(List.range N).all (fun i => !(dm i == some t))=true):∀ i,i < N->ls i=true->dm i ≠ some t:=fun i hi _ e=>by
 rw [List.all_eq_true] at h
 have:=h i (by simpa using hi)
 rw [e] at this
 simp at this
theorem jlfb {dm:Nat->Option Tmp} {N t k:Nat} {ls:Nat->Bool} (hk:ls k=false) (h:(List.range N).all (fun i => !(dm i == some t) || i == k)=true):∀ i,i < N->ls i=true->dm i ≠ some t:=fun i hi hl e=>by
 rw [List.all_eq_true] at h
 have:=h i (by simpa using hi)
 rw [e] at this
 have h2:i=k:=by simpa using this
 rw [h2,hk] at hl
 cases hl
theorem jaf {dm:Nat->Option Tmp} {N:Nat} (h:(List.range N).all (fun i=>(List.range N).all fun j=>(i == j) || (dm i == none) || !(dm i == dm j))=true):∀ i j t,i < N->j < N->dm i=some t->dm j=some t->i=j:=fun i j t hi hj e1 e2=>by
 rw [List.all_eq_true] at h
 have h1:=h i (by simpa using hi)
 rw [List.all_eq_true] at h1
 have h2:=h1 j (by simpa using hj)
 rw [e1,e2] at h2
 simpa using h2
theorem jni {dm:Nat->Option Tmp} {N n:Nat} (h:(List.range N).all (fun i=>match dm i with | some t=>decide (t < n) | none=>true)=true):∀ i t,i < N->dm i=some t->t < n:=fun i t hi e=>by
 rw [List.all_eq_true] at h
 have:=h i (by simpa using hi)
 rw [e] at this
 simpa using this
theorem Part.frame {a0 a:Act} {dm:Nat->Option Tmp} {N:Nat} {ls:Nat->Bool} (h:Part a0 dm N ls a) (n:Nat) (hn:a0.tmps.size=n) :
   ∃ vs:Nat->Value,(∀ t,vs t=a.tmps.getD t undef)/\a = { tmps:=((List.range n).map fun t=>if (List.range N).any (fun i=>dm i == some t) then vs t else a0.tmps.toList.getD t undef).toArray,defers:=a0.defers }:=by
 refine ⟨fun t=>a.tmps.getD t undef,fun _=>rfl, ?_⟩
 obtain ⟨t,d⟩:=a
 have hd:=h.defers
 have hs:=h.size
 have ho:=h.out
 simp only at hd hs ho
 subst hd
 congr 1
 apply Array.ext'
 apply List.ext_getElem?
 intro i
 rcases Nat.lt_or_ge i n with hi | hi
 · have hit:i < t.size:=by omega
   have hg:t.toList[i]?=some (t.getD i undef):=by simp [Array.getD,hit]
   rw [hg]
   simp only [List.getElem?_map,List.getElem?_range hi,Option.map_some]
   congr 1
   by_cases hx:(List.range N).any (fun q=>dm q == some i)=true
   · rw [if_pos hx]
   · rw [if_neg hx]
     rw [ho i (fun j hj _ e=>hx ?_)]
     · simp [Array.getD_eq_getD_getElem?,List.getD_eq_getElem?_getD]
     · rw [List.any_eq_true]
       exact ⟨j,by simpa using hj,by simpa using e⟩
 · rw [List.getElem?_eq_none (by simpa using (by omega:t.size<=i)),List.getElem?_eq_none (by simpa using hi)]
end Go.Proofs
namespace Go.Proofs
open Go.RowKit Go.Shelf Go.Proofs.Ct Go.Maps
section
variable {o:Oper} {a:Act} {w w' : World} {n:Nat} {next:Act->World->Prop} {Q:Exit->Act->World->Prop} {v:Value}
theorem jic (hrun:(execOp a.eval o).run Try.prog w=.ok .skip w') (h:next (a.put o.dst undef) w'):o.wpIn Fence.wide n Try.prog a w next Q :=
 ⟨fun _ _=>trivial,by rw [Fence.wide_round,Oper.semAt_none,hrun]; exact h⟩
theorem jmd (x:Operand) (ad:Addr) (ho:o.op=.nilCheck x) (hx:a.eval x=.pointer (some ad)):(execOp a.eval o).run Try.prog w=.ok (.value (.pointer (some ad))) w:=by
 unfold execOp; simp only [ho,hx]; rfl
theorem agg3 (w:World):(isAgg 3).run Try.prog w=.ok false w:=by kernel_rfl
theorem jqu (w:World):(isAgg 22).run Try.prog w=.ok false w:=by kernel_rfl
theorem jan (w:World):(isAgg 24).run Try.prog w=.ok false w:=by kernel_rfl
theorem jgb (T:TypeId) (hT:∀ w,(isAgg T).run Try.prog w=.ok false w) (x:Operand) (ad:Addr) (ho:o.op=.load T x) (hx:a.eval x=.pointer (some ad)) (hc:w.cell? ad=some v):(execOp a.eval o).run Try.prog w=.ok (.value v) w:=by
 unfold execOp
 simp only [ho,hx,Instr.loadAt,Instr.sureAddr,loadVar,Sem.run_bind,Sem.run_pure,Result.andThen_ok,hT]
 simp [go_sem,hc]
theorem johb (b:Nat) (w:World):(Instr.fieldAt 123 (.pointer (some ⟨b,0,none⟩)) 0).run Try.prog w=.ok (.pointer (some ⟨b,0,none⟩)) w:=by kernel_rfl
theorem joo (b:Nat) (w:World):(Instr.fieldAt 123 (.pointer (some ⟨b,0,none⟩)) 2).run Try.prog w=.ok (.pointer (some ⟨b,2,none⟩)) w:=by kernel_rfl
theorem jyl (b:Nat) (w:World):(Instr.fieldAt 123 (.pointer (some ⟨b,0,none⟩)) 3).run Try.prog w=.ok (.pointer (some ⟨b,3,none⟩)) w:=by kernel_rfl
theorem jnhb (b:Nat) (w:World):(Instr.fieldAt 123 (.pointer (some ⟨b,0,none⟩)) 5).run Try.prog w=.ok (.pointer (some ⟨b,5,none⟩)) w:=by kernel_rfl
theorem jbab (b:Nat) (w:World):(Instr.fieldAt 123 (.pointer (some ⟨b,0,none⟩)) 6).run Try.prog w=.ok (.pointer (some ⟨b,6,none⟩)) w:=by kernel_rfl
theorem jre {T E:TypeId} (hu:Try.prog.underlying T=some (.slice E)) (hs:∀ w,(sizeOf E).run Try.prog w=.ok 1 w) (g m c i:Nat) (hi:i < m) (w:World) :
   (Instr.indexAt T (.slice (some ⟨g,0,none⟩) m c) (.int .i64 (i:Int))).run Try.prog w=.ok (.pointer (some ⟨g,i,none⟩)) w:=by
 have h1:(0:Int)<=(i:Int)/\(i:Int) < (m:Int):=⟨by omega,by omega⟩
 have h2:=Addr.add_mid g 0 i
 rw [Nat.zero_add] at h2
 simp [Instr.indexAt,asIntOf,run_underlying hu,hs,h2,hi]
theorem jlm (w:World):(sizeOf 3).run Try.prog w=.ok 1 w:=by kernel_rfl
theorem jcp (w:World):(sizeOf 24).run Try.prog w=.ok 1 w:=by kernel_rfl
theorem jnh {T:Nat} (x y:Operand) (ad i:Value) (ho:o.op=.indexAddr T x y) (hx:a.eval x=ad) (hy:a.eval y=i) (hf:(Instr.indexAt T ad i).run Try.prog w=.ok v w):(execOp a.eval o).run Try.prog w=.ok (.value v) w:=by
 unfold execOp; simp only [ho,hx,hy,Sem.run_bind,hf,Result.andThen_ok]; rfl
theorem jlc (T:TypeId) (x y:Operand) (ad:Addr) (u v:Value) (ho:o.op=.store T x y) (hx:a.eval x=.pointer (some ad)) (hy:a.eval y=v) (_h1:ad.spot=none) (_hc:w.cell? ad=some u) (_hf:w.frozen? ad=false) (ht:(Instr.storeAt T (.pointer (some ad)) v).run Try.prog w=.ok () (w.setCell ad v)):(execOp a.eval o).run Try.prog w=.ok .skip (w.setCell ad v):=by
 unfold execOp
 simp only [ho,hx,hy,Sem.run_bind,ht,Result.andThen_ok]
 rfl
theorem st3 (ad:Addr) (x y:Int) (hc:w.cell? ad=some (.int .i64 x)) (hf:w.frozen? ad=false):(Instr.storeAt 3 (.pointer (some ad)) (.int .i64 y)).run Try.prog w=.ok () (w.setCell ad (.int .i64 y)):=by
 simp [Instr.storeAt,Instr.sureAddr,go_sem,hc,hf]
theorem st24 (ad:Addr) (u:Value) (A:Option Addr) (m c:Nat) (hc:w.cell? ad=some u) (hf:w.frozen? ad=false):(Instr.storeAt 24 (.pointer (some ad)) (.slice A m c)).run Try.prog w=.ok () (w.setCell ad (.slice A m c)):=by
 simp [Instr.storeAt,Instr.sureAddr,go_sem,hc,hf]
theorem st22 (ad:Addr) (u:Value) (A:Option Addr) (m c:Nat) (hc:w.cell? ad=some u) (hf:w.frozen? ad=false):(Instr.storeAt 22 (.pointer (some ad)) (.slice A m c)).run Try.prog w=.ok () (w.setCell ad (.slice A m c)):=by
 simp [Instr.storeAt,Instr.sureAddr,go_sem,hc,hf]
end
end Go.Proofs
