/- coset.Enumerate: what it answers, and how its results are read; The reference's Begin and Given; coset.Enumerate; The reference's Enumerate; The walk of RewriteKnown; Ways of words; what was scanned is closed; What an enumeration ends with, plainly: relators are closed everywhere, the subgroup's words at 0; the table of the living. -/
import Derived.Test.YtmpnengjboabcaaFsCS11
import Derived.Test.YtmpnengjboabcaaFsCS7
import Derived.Test.YtmpnengjboabcaaFsCS2
namespace Go.Proofs
open Go.RowKit Go.Shelf Go.Proofs.Ct Go.Maps
def jhc (g:Nat) (sub:List W) (limit:Int):Bool:=decide (100 < sub.length) || decide (4000 < sumTo sub sub.length) || (sub.any fun w=>w.any (jxa g)) || decide (limit < 1) || decide (20000 < limit)
def jme (g:Int) (rels sub:List W) (limit:Int):Tb × (Int × Int) × Int :=
 if presE g rels ≠ 0 then ([],(0,0),presE g rels) else
 if jhc g.toNat sub limit=true then ([],(0,0),2) else
 match runS (2 * g.toNat) limit.toNat rels sub with
 | none=>([],(0,0),12)
 | some s=>((stdE g (tabS s) 0).1,((s.t.length:Int),s.most),0)
def jsu (g:Int) (rels sub:List W) (limit:Int) (w:World) (e:Ending) (w' : World):Prop :=
 (∃ u,e=.returned (.tuple #[u,.agg #[.int .i64 (jme g rels sub limit).2.1.1,.int .i64 (jme g rels sub limit).2.1.2,.int .i64 0],.int .i64 (jme g rels sub limit).2.2])/\Tab w' u (jme g rels sub limit).1)/\Below w.heap.size w w'
theorem jxbb {g:Int} {rels sub:List W} {limit:Int} (h:presE g rels ≠ 0):jme g rels sub limit=([],(0,0),presE g rels):=by unfold jme; rw [if_pos h]
theorem jkfb {g:Nat} {rels sub:List W} {limit:Int} (h:presE g rels=0) (h2:jhc g sub limit=true):jme g rels sub limit=([],(0,0),2):=by unfold jme; rw [if_neg (by rw [h]; simp),Int.toNat_natCast,if_pos h2]
theorem jbk {g lim:Nat} {rels sub:List W} (h:presE g rels=0) (h2:jhc g sub lim=false) (h3:runS (2 * g) lim rels sub=none):jme g rels sub lim=([],(0,0),12):=by
 unfold jme; rw [if_neg (by rw [h]; simp),Int.toNat_natCast,if_neg (by rw [h2]; simp),Int.toNat_natCast,h3]
theorem jxm {g lim:Nat} {rels sub:List W} {s:St} (h:presE g rels=0) (h2:jhc g sub lim=false) (h3:runS (2 * g) lim rels sub=some s):jme g rels sub lim=((stdE g (tabS s) 0).1,((s.t.length:Int),s.most),0):=by
 unfold jme; rw [if_neg (by rw [h]; simp),Int.toNat_natCast,if_neg (by rw [h2]; simp),Int.toNat_natCast,h3]
theorem jwdb (w:World) (B g:Nat) (u:Value) (ws:List Int) (hg:g<=16) (hc:w.cell? ⟨B,0,none⟩=some (.int .i64 (g:Int))) (hu:jma w u ws) :
   Calls Try.prog 106 #[u,.pointer (some ⟨B,0,none⟩)] w fun e w'=>e=.returned (.bool (ws.any (jxa g)))/\Below w.heap.size w w':=by
 have HC:=Lib.hid (jtbb w g u ws hg hu)
 obtain ⟨A,c,rfl,-,-,-⟩:=hu.open_
 clear hu
 generalize ws.any (jxa g)=b at *
 go_enter Try.func106,Try.ntmps106
 go_wp2_with (go_at_call 107; (refine HC.out.mono ?_); rintro e w' ⟨rfl,hb⟩; have HB:=Lib.hid hb; clear hb)
 go_ret
 exact ⟨jsa (by simp),HB.out⟩
theorem eg82:∀ args w,(callFunc 106 args).run Try.prog w=.ok (.enter 106 args) w:=enters_of Try.func106 (by kernel_rfl) rfl
theorem res32 {q:Nat} {w:World} {v:Value} {a b c e:Int} (h:ResC q w v a b c e) (tmps:Array Value) (h6:tmps[6]?=some (.pointer (some ⟨q,0,none⟩))) (h7:tmps[7]?=some (.pointer (some ⟨q + 1,0,none⟩))) (h8:tmps[8]?=some (.pointer (some ⟨q + 1 + 1,0,none⟩))) :
   (results Try.f40 tmps).run Try.prog w=.ok (.tuple #[v,.agg #[.int .i64 a,.int .i64 b,.int .i64 c],.int .i64 e]) w:=by
 obtain ⟨c0,c1,c2,c3,c4,-,-,-,-,-⟩:=h
 simp [results,Try.results40,go_sem,h6,h7,h8,asAddr,c0,c1,c2,c3,c4]
theorem jzk {q:Nat} {w:World} {v:Value} {a b c e:Int} (h:ResC q w v a b c e) (tmps:Array Value) (h6:tmps[6]?=some (.pointer (some ⟨q,0,none⟩))) (h7:tmps[7]?=some (.pointer (some ⟨q + 1,0,none⟩))) (h8:tmps[8]?=some (.pointer (some ⟨q + 1 + 1,0,none⟩))) {R:Ending->World->Prop}
   (hR:R (.returned (.tuple #[v,.agg #[.int .i64 a,.int .i64 b,.int .i64 c],.int .i64 e])) w):Leaves Try.prog Try.f40 tmps R [] .returning w:=⟨_,res32 h tmps h6 h7 h8,hR⟩
end Go.Proofs
namespace Go.Proofs
open Go.RowKit Go.Shelf Go.Proofs.Ct Go.Maps
def made124 (w:World) (lim:Nat):World:=w.alloc (.cells #[.slice none 0 0,.slice none 0 0,.slice none 0 0,.int .i64 (lim:Int),.int .i64 0,.int .i64 0,.bool false] 131)
theorem jnjb (g:Nat):Inv g nilS:=by
 refine ⟨?_, ?_,rfl, ?_, ?_, ?_⟩ <;> intro x hx <;> exact absurd hx (Nat.not_lt_zero _)
def jdc (g:Int) (rels sub:List W) (limit:Int):Int:=if presE g rels ≠ 0 then presE g rels else if jhc g.toNat sub limit=true then 2 else 0
theorem jyu {sub:List W} (h:∀ j,(sub.getD j []).length<=100000):∀ k,sumTo sub k<=k * 100000
 | 0=>Nat.zero_le _
 | k + 1=>by
   have:=jyu h k
   have:=h k
   show sumTo sub k + (sub.getD k []).length<=(k + 1) * 100000
   omega
end Go.Proofs
namespace Go.Proofs
open Go.RowKit Go.Shelf Go.Proofs.Ct Go.Maps
theorem jpp (w:World) (x:Array Value):ResC (w.heap.size + 1) ((((w.alloc (.cells x 40)).alloc (.cells #[.slice none 0 0] 23)).alloc (.cells #[.int .i64 0,.int .i64 0,.int .i64 0] 49)).alloc (.cells #[.int .i64 0] 28)) (.slice none 0 0) 0 0 0 0:=by
 constructor <;> simp [go_sem]
def jcj (w:World) (g lim:Nat):World:=w.alloc (.cells #[.int .i64 (2 * (g:Int)),.int .i64 (lim:Int),.slice none 0 0,.slice none 0 0,.slice none 0 0,.int .i64 0,.int .i64 0] 123)
theorem StP.made (w:World) (g lim:Nat):StP w.heap.size w.heap.size (2 * g) lim (jcj w g lim) nilS:=by
 refine ⟨Nat.le_refl _, [],.slice none 0 0,.slice none 0 0,.slice none 0 0,fun _=>0,fun _=>0,⟨?_⟩,⟨World.ownsRow_nil _ _ _ _,fun i hi=>absurd hi (Nat.not_lt_zero _),fun i j hi=>absurd hi (Nat.not_lt_zero _),World.ownsRow_nil _ _ _ _,World.ownsRow_nil _ _ _ _,fun i hi=>absurd hi (Nat.not_lt_zero _),fun i hi=>absurd hi (Nat.not_lt_zero _),(fun r hr=>by cases hr),⟨rfl,fun x hx=>absurd hx (Nat.not_lt_zero _)⟩⟩⟩
 have:=heap_alloc_new w (.cells #[.int .i64 (2 * (g:Int)),.int .i64 (lim:Int),.slice none 0 0,.slice none 0 0,.slice none 0 0,.int .i64 0,.int .i64 0] 123)
 have e:((2 * g:Nat):Int)=2 * (g:Int):=by omega
 rw [e]
 exact this
theorem jmc (w:World) (g lim:Nat):Below w.heap.size w (jcj w g lim):=(Below.refl _ _).alloc (Nat.le_refl _) _
theorem jvv (w:World) (g lim:Nat):w.heap.size<=(jcj w g lim).heap.size:=(jmc w g lim).size
theorem jjr.of {w:World} {v:Value} {l:List W} (h:Tab w v l) {w' : World} (hb:Below w.heap.size w w'):jjr w.heap.size w' v l:=⟨w,rfl,h,hb⟩
theorem jbn {a b:Addr} (h:a.block ≠ b.block\/a.off ≠ b.off):a ≠ b:=fun e=>by
 subst e
 rcases h with h | h <;> exact h rfl
theorem ResC.set2 {q:Nat} {w:World} {v:Value} {a b c e:Int} (h:ResC q w v a b c e) (v' : Value) (e' : Int):ResC q ((w.setCell ⟨q,0,none⟩ v').setCell ⟨q + 1 + 1,0,none⟩ (.int .i64 e')) v' a b c e':=by
 obtain ⟨c0,c1,c2,c3,c4,f0,f1,f2,f3,f4⟩:=h
 refine ⟨(jfa (jfa c0 _) _).trans ?_,(jfa (jfa c1 _) _).trans ?_,(jfa (jfa c2 _) _).trans ?_,(jfa (jfa c3 _) _).trans ?_,(jfa (jfa c4 _) _).trans ?_, ?_, ?_, ?_, ?_, ?_⟩ <;> simp [f0,f1,f2,f3,f4]
theorem TabB.setCell {B:Nat} {w:World} {u:Value} {l:List (List Int)} (h:TabB B w u l) {p:Addr} (hp:p.block < B) (v:Value):TabB B (w.setCell p v) u l :=
 h.keep (by simp [World.setCell]) fun k h1 _=>Below.heap_setCell w p v k (by omega)
theorem jep {B q:Nat} {w:World} {u:Value} {l:List (List Int)} (h:TabB B w u l) (h1:q + 1 < B) (h2:q + 1 + 1 < B) (v:Value) (a b c e:Int):TabB B (setR q w v a b c e) u l :=
 ((((h.setCell (p:=⟨q,0,none⟩) (by show q < B; omega) v).setCell (p:=⟨q + 1,0,none⟩) h1 _).setCell (p:=⟨q + 1,1,none⟩) h1 _).setCell (p:=⟨q + 1,2,none⟩) h1 _).setCell (p:=⟨q + 1 + 1,0,none⟩) h2 _
theorem StP.tops {base b m lim:Nat} {w:World} {s:St} (h:StP base b m lim w s):∃ A c,w.cell? ⟨b,2,none⟩=some (.slice A s.t.length c)/\w.cell? ⟨b,6,none⟩=some (.int .i64 s.most):=by
 obtain ⟨-,P,vr,vp,vq,bl,cs,hB,hC⟩:=h
 obtain ⟨A,c,rfl⟩:=jgc hC.out
 exact ⟨A,c,hB.cells.2.2.1,hB.cells.2.2.2.2.2.2⟩
abbrev S16 (q p:Nat) (u r m:Value) (W:World):Prop:=W.cell? ⟨q,0,none⟩=some u/\W.cell? ⟨p,2,none⟩=some r/\W.cell? ⟨p,6,none⟩=some m/\W.cell? ⟨q + 1 + 1,0,none⟩=some (.int .i64 0)
theorem S16.drew {q p:Nat} {u r m:Value} {W:World} (h:S16 q p u r m W):S16 q p u r m W.drew:=h
theorem S16.st0 {q p:Nat} {u r m:Value} {W:World} (h:S16 q p u r m W):S16 q p u r m (W.setCell ⟨q,0,none⟩ u) :=
 ⟨(jfa h.1 _).trans (by simp),(jfa h.2.1 _).trans (by simp),(jfa h.2.2.1 _).trans (by simp),(jfa h.2.2.2 _).trans (by simp)⟩
theorem S16.st1 {q p:Nat} {u r m:Value} {W:World} (h:S16 q p u r m W) (a b:Value) (hne:q + 1 ≠ p):∀ c:Value,S16 q p u r m (((W.setCell ⟨q + 1,0,none⟩ a).setCell ⟨q + 1,1,none⟩ b).setCell ⟨q + 1,2,none⟩ c):=fun c =>
 ⟨(jfa (jfa (jfa h.1 _) _) _).trans (by simp),(jfa (jfa (jfa h.2.1 _) _) _).trans (by simp),(jfa (jfa (jfa h.2.2.1 _) _) _).trans (by simp),(jfa (jfa (jfa h.2.2.2 _) _) _).trans (by simp)⟩
theorem S16.st2 {q p:Nat} {u r m:Value} {W:World} (h:S16 q p u r m W):S16 q p u r m (W.setCell ⟨q + 1 + 1,0,none⟩ (.int .i64 0)) :=
 ⟨(jfa h.1 _).trans (by simp),(jfa h.2.1 _).trans (by simp),(jfa h.2.2.1 _).trans (by simp),(jfa h.2.2.2 _).trans (by simp)⟩
theorem sumTo_le {sub:List W} (h:∀ j,(sub.getD j []).length<=100000):∀ k,sumTo sub k<=k * 100000
 | 0=>Nat.zero_le _
 | k + 1=>by
   have:=sumTo_le h k
   have:=h k
   show sumTo sub k + (sub.getD k []).length<=(k + 1) * 100000
   omega
def jld (g:Int) (rels sub:List W) (limit:Int) (w:World) (e:Ending) (w' : World):Prop :=
 (∃ u,e=.returned (.tuple #[u,.agg #[.int .i64 (jme g rels sub limit).2.1.1,.int .i64 (jme g rels sub limit).2.1.2,.int .i64 0],.int .i64 (jme g rels sub limit).2.2])/\TabB w.heap.size w' u (jme g rels sub limit).1)/\Below w.heap.size w w'
theorem jld.err {g:Int} {rels sub:List W} {limit:Int} {w w' : World} {x:Int} (h:jme g rels sub limit=([],(0,0),x)) (hb:Below w.heap.size w w'):jld g rels sub limit w (.returned (.tuple #[.slice none 0 0,.agg #[.int .i64 0,.int .i64 0,.int .i64 0],.int .i64 x])) w':=by
 unfold jld
 rw [h]
 exact ⟨⟨_,rfl,TabB.nil⟩,hb⟩
theorem jld.plain {g:Int} {rels sub:List W} {limit:Int} {w w' : World} {e:Ending} (h:jld g rels sub limit w e w'):jsu g rels sub limit w e w':=by
 obtain ⟨⟨u,h1,h2⟩,h3⟩:=h
 exact ⟨⟨u,h1,h2.at_⟩,h3⟩
theorem TabB.low {B B' : Nat} {w:World} {u:Value} {l:List (List Int)} (h:TabB B w u l) (hb:B'<=B):TabB B' w u l:=fun w' hk=>h w' fun k h1 h2=>hk k (Nat.le_trans hb h1) h2
theorem TabB.belowB {B:Nat} {w w' : World} {u:Value} {l:List (List Int)} (h:TabB B w u l) (hb:Below w.heap.size w w'):TabB B w' u l:=h.keep hb.size fun k _ h2=>hb.block k h2
set_option maxRecDepth 100000 in
set_option maxHeartbeats 4000000 in
theorem enum32_B (w : World) (vr vs:Value) (g:Int) (rels sub:List W) (limit:Int) (hR:Tab w vr rels) (hS:Tab w vs sub) (hsm:∀ j,(sub.getD j []).length<=100000) (hsl:sub.length<=1000000):Calls Try.prog 40 #[.agg #[.int .i64 g,vr],vs,.int .i64 limit] w (jld g rels sub limit w):=by
 obtain ⟨Ar,cr,rfl⟩:=Tab.form hR
 obtain ⟨As,cs,rfl⟩:=Tab.form hS
 have H78:Hid (∀ W,Tab W (.slice Ar rels.length cr) rels->Calls Try.prog 102 #[.agg #[.int .i64 g,.slice Ar rels.length cr]] W fun e w'=>(∃ y,e=.returned (.tuple #[.int .i64 (presE g rels),.int .i64 y]))/\Below W.heap.size W w'):=Lib.hid fun W h=>jaj W _ _ rels h
 have hmf:∀ (fn:Fn) (first cap:Array Value) (w:World),(Instr.makeFunc fn first cap).run Try.prog w=.ok (.func fn first cap) w:=fun _ _ _ _=>rfl
 have HPB:Hid (∀ w0:World,w0=(((w.alloc (.cells #[.int .i64 g,.slice Ar rels.length cr] 40)).alloc (.cells #[.slice none 0 0] 23)).alloc (.cells #[.int .i64 0,.int .i64 0,.int .i64 0] 49)).alloc (.cells #[.int .i64 0] 28)->Below w.heap.size w w0/\w0.heap.size=w.heap.size + 4/\w0.heap[w.heap.size]?=some (.cells #[.int .i64 g,.slice Ar rels.length cr] 40 (0,0))/\ResC (w.heap.size + 1) w0 (.slice none 0 0) 0 0 0 0):=Lib.hid fun w0 h=>by
   subst h
   refine ⟨((((Below.refl _ _).alloc (Nat.le_refl _) _).alloc (by simp) _).alloc (by simp; omega) _).alloc (by simp; omega) _,by simp, ?_,jpp w _⟩
   have h0:=heap_alloc_new w (.cells #[.int .i64 g,.slice Ar rels.length cr] 40)
   have hb:Below (w.heap.size + 1) (w.alloc (.cells #[.int .i64 g,.slice Ar rels.length cr] 40)) ((((w.alloc (.cells #[.int .i64 g,.slice Ar rels.length cr] 40)).alloc (.cells #[.slice none 0 0] 23)).alloc (.cells #[.int .i64 0,.int .i64 0,.int .i64 0] 49)).alloc (.cells #[.int .i64 0] 28)):=(((Below.refl _ _).alloc (by simp) _).alloc (by simp) _).alloc (by simp) _
   exact (hb.block _ (by omega)).trans h0
 have HRR:=Lib.hid hR
 have HSS:=Lib.hid hS
 clear hR hS
 go_enter_defers Try.func40,Try.ntmps40
 go_wp2_with fail
 generalize hw0:(((w.alloc (.cells #[.int .i64 g,.slice Ar rels.length cr] 40)).alloc (.cells #[.slice none 0 0] 23)).alloc (.cells #[.int .i64 0,.int .i64 0,.int .i64 0] 49)).alloc (.cells #[.int .i64 0] 28)=w0 at *
 obtain ⟨hb0,hsz,hbp,hrc⟩:=HPB.out w0 rfl
 have HB0:=Lib.hid hb0
 have HSZ:=Lib.hid hsz
 have HBX:Hid (∀ W,Below w0.heap.size w0 W->W.cell? ⟨w.heap.size,0,none⟩=some (.int .i64 g)/\W.cell? ⟨w.heap.size,1,none⟩=some (.slice Ar rels.length cr)/\ResC (w.heap.size + 1) W (.slice none 0 0) 0 0 0 0):=Lib.hid fun W h=>by
   obtain ⟨a,b⟩:=jde ((h.block _ (Array.getElem?_eq_some_iff.1 hbp).1).trans hbp)
   exact ⟨a,b,hrc.below hrc.lt h⟩
 clear hw0 hb0 hsz hbp hrc HPB
 by_cases he:presE g rels=0
 · have d1 : (presE g rels != 0)=false:=by simp [he]
   have HE:=Lib.hid he
   clear he
   generalize hxe:presE g rels=x at *
   have HXE:=Lib.hid hxe
   clear hxe
   go_wp2_with (first
     | (go_at_call 102; (with_reducible refine (H78.out w0 (jda.below HRR.out HB0.out)).mono ?_); rintro e w1 ⟨⟨y,rfl⟩,hb⟩
        have HB1:=Lib.hid hb
        clear hb))
   go_loopg [11,26] sub.length (fun n l i wx=>∃ k:Nat,i=.int .i64 (k:Int)/\n=sub.length - k/\k<=sub.length/\l=.int .i64 ((sumTo sub k:Nat):Int)/\w1=wx)
   case atStart=>exact ⟨0,rfl,by omega,Nat.zero_le _,rfl,rfl⟩
   case round =>
     obtain ⟨k,rfl,hgk,hk,rfl,rfl⟩:=hrel
     have HGK:=Lib.hid hgk
     clear hgk
     have hk0:(0:Int)<=(k:Int):=Int.natCast_nonneg _
     have hsk:=sumTo_le hsm k
     have hsk0:(0:Int)<=((sumTo sub k:Nat):Int):=Int.natCast_nonneg _
     have hsk1:((sumTo sub k:Nat):Int)<=100000000000:=by
       have:k * 100000<=1000000 * 100000:=Nat.mul_le_mul_right _ (by omega)
       omega
     clear hsk
     by_cases hlt:k < sub.length
     · have hltI:(k:Int) < (sub.length:Int):=by omega
       have hT:=jda.below HSS.out (HB0.out.trans (HB1.out.mono HB0.out.size))
       obtain ⟨bs,os,rfl,hcell⟩:=hT.cells (by omega)
       obtain ⟨u,hu,hI⟩:=hcell k hlt
       obtain ⟨Au,cu,rfl,hu1,hu2,-⟩:=hI.open_
       have hlu:=hsm k
       have HSU:Hid (sumTo sub (k + 1)=sumTo sub k + (sub.getD k []).length):=Lib.hid rfl
       generalize hgl:(sub.getD k []).length=L at *
       have hl0:(0:Int)<=(L:Int):=Int.natCast_nonneg _
       have hl1:(L:Int)<=100000:=by omega
       clear hT hcell hI hu1 hu2 hlu hgl
       go_wp2_with fail
       go_roundg (sub.length - (k + 1))
       case measure=>have:=HGK.out; omega
       case rel=>exact ⟨k + 1,by go_num,rfl,by omega,by rw [HSU.out]; go_num,rfl⟩
     · obtain rfl : k = sub.length:=by omega
       clear hlt
       obtain ⟨gn,rfl,hg1,hg16,hrl,hrg⟩:=jgg (HXE.out.trans HE.out)
       have hpz:presE (gn:Int) rels=0:=HXE.out.trans HE.out
       have HPZ:=Lib.hid hpz
       obtain ⟨-,-,hrc⟩:=HBX.out _ HB1.out
       have HRC:=Lib.hid hrc
       have HRG:=Lib.hid hrg
       have hcg:=(HBX.out _ HB1.out).1
       have hcr:=(HBX.out _ HB1.out).2.1
       obtain ⟨c0,c1,c2,c3,c4,f0,f1,f2,f3,f4⟩:=hrc
       have HW1:=Lib.hid (HB0.out.trans (HB1.out.mono HB0.out.size))
       clear hrg hpz
       have H81:Hid (Calls Try.prog 105 #[.slice As sub.length cs,.func (.func 106) #[] #[.pointer (some ⟨w.heap.size,0,none⟩)]] w1 fun e w'=>e=.returned (.bool (sub.any fun w=>w.any (jxa gn)))/\Below w1.heap.size w1 w'):=Lib.hid (
         jfw 106 _ (fun w=>w.any (jxa gn)) w1 eg82 _ sub (jda.below HSS.out HW1.out) fun W' u k hb hk hI=>jwdb W' w.heap.size gn u _ hg16 ((hb.cell (p:=⟨w.heap.size,0,none⟩) (World.block_lt_of_cell? _ _ hcg)).trans hcg) hI)
       have HBAD:Hid (jhc gn sub limit=true->jme (gn:Int) rels sub limit=([],(0,0),2)):=Lib.hid fun h=>jkfb HPZ.out h
       by_cases h1:(100:Int) < (sub.length:Int)
       · have HBA:Hid (jme (gn:Int) rels sub limit=([],(0,0),2)):=Lib.hid (HBAD.out (by unfold jhc; simp; omega))
         clear HBAD
         have HRC2:=Lib.hid (HRC.out.set (.slice none 0 0) 0 0 0 2)
         go_wp2_with fail
         refine jzk (q:=w.heap.size + 1) HRC2.out _ rfl rfl rfl ?_
         exact jld.err HBA.out (jxc HW1.out (by omega) _ _ _ _ _)
       · by_cases h2 : (4000:Int) < ((sumTo sub sub.length:Nat):Int)
         · have HBA:Hid (jme (gn:Int) rels sub limit=([],(0,0),2)):=Lib.hid (HBAD.out (by unfold jhc; simp; omega))
           clear HBAD
           have HRC2:=Lib.hid (HRC.out.set (.slice none 0 0) 0 0 0 2)
           go_wp2_with fail
           refine jzk (q:=w.heap.size + 1) HRC2.out _ rfl rfl rfl ?_
           exact jld.err HBA.out (jxc HW1.out (by omega) _ _ _ _ _)
         · cases h3 : (sub.any fun w=>w.any (jxa gn)) with
           | true =>
             have HBA:Hid (jme (gn:Int) rels sub limit=([],(0,0),2)):=Lib.hid (HBAD.out (by unfold jhc; rw [h3]; simp))
             clear HBAD
             rw [h3] at H81
             clear h3
             go_wp2_with (first
               | (go_at_call 105; (with_reducible refine H81.out.mono ?_); rintro e w2 ⟨rfl,hb⟩
                  have HB2:=Lib.hid (HB1.out.trans (hb.mono HB1.out.size))
                  have HW2:=Lib.hid (HW1.out.trans (hb.mono HW1.out.size))
                  obtain ⟨-,-,hrc⟩:=HBX.out _ HB2.out
                  clear c0 c1 c2 c3 c4 f0 f1 f2 f3 f4
                  have HRC2:=Lib.hid (hrc.set (.slice none 0 0) 0 0 0 2)
                  obtain ⟨c0,c1,c2,c3,c4,f0,f1,f2,f3,f4⟩:=hrc
                  clear hb))
             refine jzk (q:=w.heap.size + 1) HRC2.out _ rfl rfl rfl ?_
             exact jld.err HBA.out (jxc HW2.out (by omega) _ _ _ _ _)
           | false =>
             by_cases h4:limit < 1\/20000 < limit
             · have HBA:Hid (jme (gn:Int) rels sub limit=([],(0,0),2)):=Lib.hid (HBAD.out (by unfold jhc; simp; omega))
               clear HBAD
               rw [h3] at H81
               clear h3
               rcases h4 with h4 | h4
               all_goals
                 go_wp2_with (first
                   | (go_at_call 105; (with_reducible refine H81.out.mono ?_); rintro e w2 ⟨rfl,hb⟩
                      have HB2:=Lib.hid (HB1.out.trans (hb.mono HB1.out.size))
                      have HW2:=Lib.hid (HW1.out.trans (hb.mono HW1.out.size))
                      obtain ⟨-,-,hrc⟩:=HBX.out _ HB2.out
                      clear c0 c1 c2 c3 c4 f0 f1 f2 f3 f4
                      have HRC2:=Lib.hid (hrc.set (.slice none 0 0) 0 0 0 2)
                      obtain ⟨c0,c1,c2,c3,c4,f0,f1,f2,f3,f4⟩:=hrc
                      clear hb))
                 refine jzk (q:=w.heap.size + 1) HRC2.out _ rfl rfl rfl ?_
                 exact jld.err HBA.out (jxc HW2.out (by omega) _ _ _ _ _)
             · have h4a : 1<=limit:=by omega
               have h4b:limit<=20000:=by omega
               have HOK:Hid (jhc gn sub limit=false):=Lib.hid (by unfold jhc; rw [h3]; simp; omega)
               have HSG:=Lib.hid (jyo h3)
               rw [h3] at H81
               obtain ⟨lim,rfl⟩ : ∃ lim:Nat,limit=(lim:Int):=⟨limit.toNat,by omega⟩
               have HRUN:Hid (∀ w2,Below w0.heap.size w0 w2->Below w.heap.size w w2->Calls Try.prog 109 #[.pointer (some ⟨w2.heap.size,0,none⟩),.slice Ar rels.length cr,.slice As sub.length cs] (jcj w2 gn lim) fun e w'=>((∃ s',runS (2 * gn) lim rels sub=some s'/\e=.returned (.tuple #[])/\StP w2.heap.size w2.heap.size (2 * gn) lim w' s')\/(runS (2 * gn) lim rels sub=none/\e=.panicked jvm))/\Below w2.heap.size (jcj w2 gn lim) w'):=Lib.hid fun w2 hb0 hb=>by
                 refine run85_any gn (2 * gn) w2.heap.size w2.heap.size lim rfl hg16 (jcj w2 gn lim) _ _ rels sub (StP.made w2 gn lim) (jvv w2 gn lim) (by omega) (by omega) (jjr.of (jda.below HRR.out hb) (jmc w2 gn lim)) (jjr.of (jda.below HSS.out hb) (jmc w2 gn lim)) (jjf (fun j hj=>(HRG.out j hj).1) LOk.nil) (jjf (fun j hj=>HSG.out j hj) LOk.nil)
               clear h3 HBAD h4
               cases hrun:runS (2 * gn) lim rels sub with
               | none =>
                 have HEN:=Lib.hid (jbk HPZ.out HOK.out hrun)
                 rw [hrun] at HRUN
                 clear hrun
                 go_wp2_with (first
                   | (go_at_call 105; (with_reducible refine H81.out.mono ?_); rintro e w2 ⟨rfl,hb⟩
                      have HB2:=Lib.hid (HB1.out.trans (hb.mono HB1.out.size))
                      have HW2:=Lib.hid (HW1.out.trans (hb.mono HW1.out.size))
                      clear c0 c1 c2 c3 c4 f0 f1 f2 f3 f4 hcg hcr
                      obtain ⟨hcg,hcr,-⟩:=HBX.out _ HB2.out
                      have hcr2:(w2.alloc (.cells #[.int .i64 (2 * (gn:Int)),.int .i64 (lim:Int),.slice none 0 0,.slice none 0 0,.slice none 0 0,.int .i64 0,.int .i64 0] 123)).cell? ⟨w.heap.size,1,none⟩=some (.slice Ar rels.length cr):=(HBX.out _ (HB2.out.trans ((jmc w2 gn lim).mono HB2.out.size))).2.1
                      clear hb)
                   | (go_at_call 109; (refine ((HRUN.out w2 HB2.out HW2.out).mono (R':=fun e w'=>e=.panicked jvm/\Below w2.heap.size (jcj w2 gn lim) w') fun e w' ⟨h,hb⟩=>⟨by
                        rcases h with ⟨s',h,-⟩ | ⟨-,h⟩
                        · cases h
                        · exact h,hb⟩).mono ?_); rintro e w3 ⟨rfl,hb⟩
                      have HB3:=Lib.hid (HB2.out.trans (((jmc w2 gn lim).trans hb).mono HB2.out.size))
                      have HW3:=Lib.hid (HW2.out.trans (((jmc w2 gn lim).trans hb).mono HW2.out.size))
                      clear hb))
                 have hrc3:=(HBX.out _ HB3.out).2.2
                 refine leaves_cons (f:=108) (args := #[.pointer (some ⟨w.heap.size + 1,0,none⟩),.pointer (some ⟨w.heap.size + 1 + 1,0,none⟩),.pointer (some ⟨w.heap.size + 1 + 1 + 1,0,none⟩)]) (by simp) (by simp [go_sem]) ?_
                 refine (jxw (w.heap.size + 1) w.heap.size w3 _ _ _ _ _ (by omega) hrc3).mono ?_
                 rintro e u' w4 ⟨rfl,rfl,hrc4,hb4⟩
                 exact jzk hrc4 _ rfl rfl rfl (jld.err HEN.out (HW3.out.trans hb4))
               | some s' =>
                 have HEN:=Lib.hid (jxm HPZ.out HOK.out hrun)
                 have hgc:=jkz (lim:=lim) (g:=gn) (by omega) (fun j hj=>(HRG.out j hj).1) (fun j hj=>HSG.out j hj) hrun
                 have hts:=jvo hg1 hg16 (by omega) hgc.1 hgc.2
                 have HTS:Hid ((stdE gn (tabS s') 0).2=0):=Lib.hid (by rw [hts.2])
                 have HTG:=Lib.hid hts.1
                 have HGC:=Lib.hid hgc
                 have H86:Hid (∀ W b,StP b b (2 * gn) lim W s'->Calls Try.prog 110 #[.pointer (some ⟨b,0,none⟩)] W fun e w'=>∃ u,e=.returned u/\Tab w' u (tabS s')/\Below W.heap.size W w'):=Lib.hid fun W b h=>jix gn (2 * gn) b b lim rfl hg16 hg1 W s' h HGC.out.1 HGC.out.2 (by omega)
                 have H48:Hid (∀ W u,Tab W u (tabS s')->Calls Try.prog 56 #[.int .i64 (gn:Int),u,.int .i64 0] W fun e w'=>(∃ u,e=.returned (.tuple #[u,.int .i64 0])/\TabB W.heap.size w' u (stdE gn (tabS s') 0).1)/\Below W.heap.size W w'):=Lib.hid fun W u h=>(jtk W u gn (tabS s') 0 h HTG.out (Int.le_refl _) (by have:=HTG.out.n1; omega)).mono fun e w' ⟨⟨u,h1,h2⟩,h3⟩=>⟨⟨u,by rw [h1,HTS.out],h2⟩,h3⟩
                 rw [hrun] at HRUN
                 clear hrun hgc hts
                 go_wp2_with (first
                   | (go_at_call 105; (with_reducible refine H81.out.mono ?_); rintro e w2 ⟨rfl,hb⟩
                      have HB2:=Lib.hid (HB1.out.trans (hb.mono HB1.out.size))
                      have HW2:=Lib.hid (HW1.out.trans (hb.mono HW1.out.size))
                      clear c0 c1 c2 c3 c4 f0 f1 f2 f3 f4 hcg hcr
                      obtain ⟨hcg,hcr,-⟩:=HBX.out _ HB2.out
                      have hcr2:(w2.alloc (.cells #[.int .i64 (2 * (gn:Int)),.int .i64 (lim:Int),.slice none 0 0,.slice none 0 0,.slice none 0 0,.int .i64 0,.int .i64 0] 123)).cell? ⟨w.heap.size,1,none⟩=some (.slice Ar rels.length cr):=(HBX.out _ (HB2.out.trans ((jmc w2 gn lim).mono HB2.out.size))).2.1
                      clear hb)
                   | (go_at_call 109; (refine ((HRUN.out w2 HB2.out HW2.out).mono (R':=fun e w'=>e=.returned (.tuple #[])/\StP w2.heap.size w2.heap.size (2 * gn) lim w' s'/\Below w2.heap.size (jcj w2 gn lim) w') fun e w' ⟨h,hb⟩=>by
                        rcases h with ⟨s'',h1,h2,h3⟩ | ⟨h,-⟩
                        · cases h1; exact ⟨h2,h3,hb⟩
                        · cases h).mono ?_); rintro e w3 ⟨rfl,hs3,hb⟩
                      have HB3:=Lib.hid (HB2.out.trans (((jmc w2 gn lim).trans hb).mono HB2.out.size))
                      have HW3:=Lib.hid (HW2.out.trans (((jmc w2 gn lim).trans hb).mono HW2.out.size))
                      have HS3:=Lib.hid hs3
                      clear hb hs3))
                 clear hcr2 hcg hcr
                 have HSX:Hid (∀ W,Below w3.heap.size w3 W->StP w2.heap.size w2.heap.size (2 * gn) lim W s'):=Lib.hid fun W h=>HS3.out.below h
                 have hcg:=(HBX.out _ HB3.out).1
                 generalize hQ:w.heap.size=Q at *
                 generalize hQ2:w2.heap.size=Q2 at *
                 have HQ:=Lib.hid hQ
                 have HQ2:=Lib.hid hQ2
                 clear hQ hQ2
                 go_region_held3 (fun w'=>w'.cell? ⟨Q,0,none⟩=some (.int .i64 (gn:Int))) (first | go_keep | (rw [World.cell?_setCell_other _ _ _ _ (by intro h; injection h with h; omega),World.cell?_setCell_other _ _ _ _ (by intro h; injection h with h; omega)]; assumption))
                   (first
                     | (go_at_call 110; (refine (H86.out _ _ (HSX.out _ (Below.refl _ w3).drew)).mono ?_); rintro e w4 ⟨u,rfl,ht4,hb⟩
                        have hb4:Below w3.heap.size w3 w4:=(Below.refl _ w3).drew.trans hb
                        have HB4:=Lib.hid hb4
                        have HT4:=Lib.hid ht4
                        have hcg4:=(HBX.out _ (HB3.out.trans (hb4.mono HB3.out.size))).1
                        obtain ⟨A4,n4,rfl⟩:=Tab.form ht4
                        clear hb hb4 ht4)
                     | (go_at_call 56; (refine (H48.out _ _ HT4.out).mono ?_); rintro e w5 ⟨⟨u5,rfl,ht5⟩,hb⟩
                        have hb5:Below w3.heap.size w3 w5:=HB4.out.trans (hb.mono HB4.out.size)
                        have HB5:=Lib.hid hb5
                        have HT5:=Lib.hid ht5
                        obtain ⟨hcg5,-,hrc5⟩:=HBX.out _ (HB3.out.trans (hb5.mono HB3.out.size))
                        have HRC5:=Lib.hid hrc5
                        obtain ⟨c0,c1,c2,c3,c4,f0,f1,f2,f3,f4⟩:=hrc5
                        obtain ⟨A5,n5,rfl⟩:=Tab.form ht5.at_
                        clear hb hb5 ht5))
                 obtain ⟨Ag,cg,r2,r6⟩:=(HSX.out _ HB5.out).tops
                 have hq4:Q + 1 + 1 + 1 < w4.heap.size:=by
                   have h1:=HRC5.out.lt
                   have h2:=HB4.out.size
                   have h3:=HB3.out.size
                   have h4:=HSZ.out
                   omega
                 have hQw:Q<=w3.heap.size:=by have:=HW3.out.size; have:=HQ.out; omega
                 have HT6:=Lib.hid ((HT5.out.setCell (p:=⟨Q + 1,0,none⟩) (by show Q + 1 < _; omega) (.slice A5 (stdE gn (tabS s') 0).1.length n5)).setCell (p:=⟨Q + 1 + 1 + 1,0,none⟩) hq4 (.int .i64 0))
                 have hrc6:=HRC5.out.set2 (.slice A5 (stdE gn (tabS s') 0).1.length n5) 0
                 have HW6:Hid (Below Q w ((w5.setCell ⟨Q + 1,0,none⟩ (.slice A5 (stdE gn (tabS s') 0).1.length n5)).setCell ⟨Q + 1 + 1 + 1,0,none⟩ (.int .i64 0))):=Lib.hid (((HW3.out.trans (HB5.out.mono hQw)).setCell (p:=⟨Q + 1,0,none⟩) (by show Q<=Q + 1; omega) _).setCell (p:=⟨Q + 1 + 1 + 1,0,none⟩) (by show Q<=Q + 1 + 1 + 1; omega) _)
                 have s2:((w5.setCell ⟨Q + 1,0,none⟩ (.slice A5 (stdE gn (tabS s') 0).1.length n5)).setCell ⟨Q + 1 + 1 + 1,0,none⟩ (.int .i64 0)).cell? ⟨Q2,2,none⟩=some (.slice Ag s'.t.length cg):=by
                   rw [World.cell?_setCell_other _ _ _ _ (jbn (.inr (by simp))),World.cell?_setCell_other _ _ _ _ (jbn (.inr (by simp)))]; exact r2
                 have s6:((w5.setCell ⟨Q + 1,0,none⟩ (.slice A5 (stdE gn (tabS s') 0).1.length n5)).setCell ⟨Q + 1 + 1 + 1,0,none⟩ (.int .i64 0)).cell? ⟨Q2,6,none⟩=some (.int .i64 s'.most):=by
                   rw [World.cell?_setCell_other _ _ _ _ (jbn (.inr (by simp))),World.cell?_setCell_other _ _ _ _ (jbn (.inr (by simp)))]; exact r6
                 generalize (w5.setCell ⟨Q + 1,0,none⟩ (.slice A5 (stdE gn (tabS s') 0).1.length n5)).setCell ⟨Q + 1 + 1 + 1,0,none⟩ (.int .i64 0)=W6 at *
                 have HRC6:=Lib.hid hrc6
                 have HRC7:=Lib.hid (hrc6.set (.slice A5 (stdE gn (tabS s') 0).1.length n5) s'.t.length s'.most 0 0)
                 clear c0 c1 c2 c3 c4 f0 f1 f2 f3 f4 r2 r6 hcg hcg4 hcg5
                 obtain ⟨c0,c1,c2,c3,c4,f0,f1,f2,f3,f4⟩:=hrc6
                 have hl0:(0:Int)<=(s'.t.length:Int):=Int.natCast_nonneg _
                 have HNQ:Hid (Q + 1 + 1 ≠ Q2):=Lib.hid (by
                   have h1:=HB2.out.size
                   have h4:=HSZ.out
                   have h5:=HQ2.out
                   omega)
                 have HS0:Hid (S16 (Q + 1) Q2 (.slice A5 (stdE gn (tabS s') 0).1.length n5) (.slice Ag s'.t.length cg) (.int .i64 s'.most) W6):=Lib.hid ⟨c0,s2,s6,c4⟩
                 go_wp2_with fail
                 go_region_held3 (fun w'=>w'.cell? ⟨Q + 1,0,none⟩=some (.slice A5 (stdE gn (tabS s') 0).1.length n5)/\w'.cell? ⟨Q2,2,none⟩=some (.slice Ag s'.t.length cg)/\w'.cell? ⟨Q2,6,none⟩=some (.int .i64 s'.most)/\w'.cell? ⟨Q + 1 + 1 + 1,0,none⟩=some (.int .i64 0))
                   (first | with_reducible exact HS0.out.drew | with_reducible exact HS0.out.st0.drew | with_reducible exact (HS0.out.st0.st1 _ _ HNQ.out _).drew | with_reducible exact (HS0.out.st0.st1 _ _ HNQ.out _).st2.drew)
                   (fail)
                 go_wp2_with fail
                 refine leaves_cons (f:=108) (args := #[.pointer (some ⟨Q + 1,0,none⟩),.pointer (some ⟨Q + 1 + 1,0,none⟩),.pointer (some ⟨Q + 1 + 1 + 1,0,none⟩)]) (by simp) (by simp [go_sem]) ?_
                 refine (jww _ _ _ _).mono ?_
                 rintro e u' w9 ⟨rfl,rfl,hb9⟩
                 have hb8:Below (setR (Q + 1) W6 (.slice A5 (stdE gn (tabS s') 0).1.length n5) s'.t.length s'.most 0 0).heap.size (setR (Q + 1) W6 (.slice A5 (stdE gn (tabS s') 0).1.length n5) s'.t.length s'.most 0 0) w9:=(Below.refl _ _).drew.trans hb9
                 have hrc9:ResC (Q + 1) w9 (.slice A5 (stdE gn (tabS s') 0).1.length n5) s'.t.length s'.most 0 0:=HRC7.out.below HRC7.out.lt hb8
                 refine jzk hrc9 _ rfl rfl rfl ?_
                 unfold jld
                 rw [HEN.out]
                 have hT7:=jep HT6.out (by omega) hq4 (.slice A5 (stdE gn (tabS s') 0).1.length n5) s'.t.length s'.most 0 0
                 refine ⟨⟨_,rfl,(hT7.belowB hb8).low (by have:=HQ.out; omega)⟩, ?_⟩
                 have hb7:=jxc HW6.out (q:=Q + 1) (by omega) (.slice A5 (stdE gn (tabS s') 0).1.length n5) s'.t.length s'.most 0 0
                 rw [HQ.out]
                 exact hb7.trans (hb8.mono (by have:=hb7.size; have:=HQ.out; omega))
 · have d1:(presE g rels != 0)=true:=by simpa using he
   have HE:Hid (jme g rels sub limit=([],(0,0),presE g rels)):=Lib.hid (jxbb he)
   generalize presE g rels=x at *
   clear he
   go_wp2_with (first
     | (go_at_call 102; (with_reducible refine (H78.out w0 (jda.below HRR.out HB0.out)).mono ?_); rintro e w1 ⟨⟨y,rfl⟩,hb⟩
        have HB1:=Lib.hid hb
        obtain ⟨-,-,hrc⟩:=HBX.out _ hb
        have HRC:=Lib.hid (hrc.set (.slice none 0 0) 0 0 0 x)
        obtain ⟨c0,c1,c2,c3,c4,f0,f1,f2,f3,f4⟩:=hrc
        clear hb))
   refine jzk (q:=w.heap.size + 1) HRC.out _ rfl rfl rfl ?_
   exact jld.err HE.out (jxc (HB0.out.trans (HB1.out.mono HB0.out.size)) (by omega) _ _ _ _ _)
theorem jybb (w:World) (vr vs:Value) (g:Int) (rels sub:List W) (limit:Int) (hR:Tab w vr rels) (hS:Tab w vs sub) (hsm:∀ j,(sub.getD j []).length<=100000) (hsl:sub.length<=1000000):Calls Try.prog 40 #[.agg #[.int .i64 g,vr],vs,.int .i64 limit] w (jsu g rels sub limit w) :=
 (enum32_B w vr vs g rels sub limit hR hS hsm hsl).mono fun _ _ h=>h.plain
end Go.Proofs
namespace Go.Proofs
open Go.RowKit Go.Shelf Go.Proofs.Ct Go.Maps
structure NumC (q:Nat) (w:World) (a b c:Int):Prop where
 c1:w.cell? ⟨q,0,none⟩=some (.int .i64 a)
 c2:w.cell? ⟨q,1,none⟩=some (.int .i64 b)
 c3:w.cell? ⟨q,2,none⟩=some (.int .i64 c)
 f1:w.frozen? ⟨q,0,none⟩=false
 f2:w.frozen? ⟨q,1,none⟩=false
 f3:w.frozen? ⟨q,2,none⟩=false
def setN (q:Nat) (w:World) (a b c:Int):World:=((w.setCell ⟨q,0,none⟩ (.int .i64 a)).setCell ⟨q,1,none⟩ (.int .i64 b)).setCell ⟨q,2,none⟩ (.int .i64 c)
end Go.Proofs
namespace Go.Proofs
open Go.RowKit Go.Shelf Go.Proofs.Ct Go.Maps
def jbp:List (List Int) := [[1,1], [2,2,2], [1,2,1,2]]
theorem jko {w:World} {b:Nat} {xs:List Int} (h:w.heap[b]?=some (.cells (ints xs).toArray 3 (0,0))) (hf:Fits xs) {n:Nat} (hn:xs.length=n) (hm:n<=1000):jma w (.slice (some ⟨b,0,none⟩) n n) xs:=by
 subst hn
 have hl:xs.length<=9223372036854775807:=by omega
 refine ⟨⟨_,xs.length,xs.length,rfl,by simp [ints],Nat.le_refl _,by simpa [maxLen] using hl,fun _=>⟨b,0,rfl,fun j u hu => ?_⟩⟩,hf⟩
 rw [cell_of_row _ _ _ _ _ _ h,Nat.zero_add]
 simpa using hu
theorem jdt {w:World} {b:Nat} {us:List Value} {xs:List (List Int)} {e:TypeId} (hb:w.heap[b]?=some (.cells us.toArray e (0,0))) {n:Nat} (hn:us.length=n) (hl:us.length=xs.length) (hm:us.length<=1000) (h:∀ i,i < xs.length->jma w (us.getD i undef) (xs.getD i [])) :
   Tab w (.slice (some ⟨b,0,none⟩) n n) xs:=by
 subst hn
 have hl9:us.length<=9223372036854775807:=by omega
 refine ⟨us,⟨_,us.length,us.length,rfl,rfl,Nat.le_refl _,by simpa [maxLen] using hl9,fun _=>⟨b,0,rfl,fun j u hu => ?_⟩⟩,hl,fun i hi => ?_⟩
 · rw [cell_of_row _ _ _ _ _ _ hb,Nat.zero_add]
   simpa using hu
 · have hi' : i < us.length:=by omega
   refine ⟨us.getD i undef, ?_,h i hi⟩
   simp [List.getD_eq_getElem?_getD,hi']
theorem jia {xs:List Int} (h:(xs.all fun x=>decide (-1000<=x) && decide (x<=1000))=true):Fits xs:=fun x hx=>by
 have:=List.all_eq_true.1 h x hx
 simp at this
 omega
theorem jwhb (g:Int) (A:Option Addr) (n c:Nat) (w:World):(Instr.build 40 #[(0,.int .i64 g),(1,.slice A n c)]).run Try.prog w=.ok (.agg #[.int .i64 g,.slice A n c]) w:=by kernel_rfl
section
variable {o:Oper} {a:Act} {w w' : World} {n:Nat} {v:Value}
theorem jzb (x y:Operand) (g:Int) (A:Option Addr) (m c:Nat) (ho:o.op=.build 40 #[(0,x),(1,y)]) (hx:a.eval x=.int .i64 g) (hy:a.eval y=.slice A m c):(execOp a.eval o).run Try.prog w=.ok (.value (.agg #[.int .i64 g,.slice A m c])) w:=by
 have hb:=jwhb g A m c w
 unfold execOp
 simp only [ho,List.map_toArray,List.map_cons,List.map_nil,hx,hy,Sem.run_bind,hb,Result.andThen_ok]
 rfl
end
theorem jom {fn:Func} {p:Tmp} (h:fn.results = #[.cell p 40]) (tmps:Array Value) (w:World) (g:Nat) (cs:Array Value)
   (hp:tmps.getD p undef=.pointer (some ⟨g,0,none⟩)) (hg:w.heap[g]?=some (.cells cs 40 (0,0))) (hs:cs.size=2) :
   (results fn tmps).run Try.prog w=.ok (.agg cs) w:=by
 have hp' : tmps[p]?.getD undef=.pointer (some ⟨g,0,none⟩):=by simpa using hp
 simp [results,h,hp',asAddr,run_loadVar_row w g 40 40 cs (0,0) _ hg Try.underlying40 rfl (by rw [hs]; exact jcy)]
def jdmb (g:Int) (l:List (List Int)) (w:World) (e:Ending) (w' : World):Prop:=(∃ A c,e=.returned (.agg #[.int .i64 g,.slice A l.length c])/\Tab w' (.slice A l.length c) l)/\Below w.heap.size w w'
inductive SP where
 | eq (v:Value) | ints (l:List Int) | tab (l:List (List Int)) | pres (g:Int) (l:List (List Int)) | any
def SP.holds:SP->Value->World->Prop
 | .eq u,v,_=>v=u
 | .ints l,v,w=>jma w v l
 | .tab l,v,w=>∃ A c,v=.slice A l.length c/\Tab w v l
 | .pres g l,v,w=>∃ A c,v=.agg #[.int .i64 g,.slice A l.length c]/\Tab w (.slice A l.length c) l
 | .any,_,_=>True
section
variable {o:Oper} {a:Act} {w w' : World} {n:Nat} {v:Value}
end
end Go.Proofs
namespace Go.Proofs.Ct
def Way (t:Tb):Nat->W->Nat->Prop
 | x, [],y=>x=y
 | x,l :: w,y=>∃ z,Edge t x (col l) z/\Way t z w y
section
variable {t:Tb} {g:Nat} {s s0 s1:St}
theorem jim {u v:W}:∀ {x y:Nat},Way t x (u ++ v) y ↔ ∃ z,Way t x u z/\Way t z v y:=by
 induction u with
 | nil=>intro x y; exact ⟨fun h=>⟨x,rfl,h⟩,fun ⟨z,h1,h2⟩=>by have e:x=z:=h1; subst e; exact h2⟩
 | cons l u ih =>
   intro x y
   constructor
   · rintro ⟨z,h1,h2⟩
     obtain ⟨z',h3,h4⟩:=ih.1 h2
     exact ⟨z',⟨z,h1,h3⟩,h4⟩
   · rintro ⟨z',⟨z,h1,h3⟩,h4⟩
     exact ⟨z,h1,ih.2 ⟨z',h3,h4⟩⟩
theorem jat {x y:Nat} {l:Int}:Way t x [l] y ↔ Edge t x (col l) y:=⟨fun ⟨z,h1,h2⟩=>by have e:z=y:=h2; subst e; exact h1,fun h=>⟨y,h,rfl⟩⟩
theorem jpj {w:W} {k:Nat} (h:k < w.length):w.take (k + 1)=w.take k ++ [w.getD k 0]:=by
 rw [List.take_add_one,List.getD_eq_getElem?_getD,List.getElem?_eq_getElem h]; rfl
theorem jbf {r:Nat} {w:W}:∀ (k:Nat),k<=w.length->0<=jla t r w k->Way t r (w.take k) (jla t r w k).toNat
 | 0,_,_=>by
   rw [List.take_zero]
   show r=((r:Int)).toNat
   omega
 | k + 1,hk,h=>by
   rw [jnb] at h ⊢
   by_cases h1:jla t r w k < 0
   · rw [if_pos h1] at h; omega
   · rw [if_neg h1] at h ⊢
     have ih:=jbf (r:=r) (w:=w) k (by omega) (by omega)
     rw [jpj (by omega)]
     refine jim.2 ⟨_,ih,jat.2 ?_⟩
     unfold Edge
     omega
theorem jeq {r:Nat} {w:W}:∀ (k:Nat),k<=w.length->∀ {y:Nat},Way t r (w.take k) y->jla t r w k=(y:Int)
 | 0,_,y,h=>by
   rw [List.take_zero] at h
   have e:r=y:=h
   subst e; rfl
 | k + 1,hk,y,h=>by
   rw [jpj (by omega)] at h
   obtain ⟨z,h1,h2⟩:=jim.1 h
   have ih:=jeq k (by omega) h1
   rw [jnb,ih,if_neg (by omega),Int.toNat_natCast]
   exact jat.1 h2
theorem jul {r y:Nat} {w:W}:leads t r w=(y:Int) ↔ Way t r w y:=by
 constructor
 · intro h
   have:=jbf (t:=t) (r:=r) w.length (Nat.le_refl _) (by show 0<=leads t r w; omega)
   rw [List.take_length] at this
   have e:(jla t r w w.length).toNat=y:=by show (leads t r w).toNat=y; omega
   rwa [e] at this
 · intro h
   exact jeq w.length (Nat.le_refl _) (by rw [List.take_length]; exact h)
theorem LOk.cons {l:Int} {w:W} (h:LOk g (l :: w)):(-(g:Int)<=l/\l<=g/\l ≠ 0)/\LOk g w:=⟨h l (List.mem_cons_self ..),fun x hx=>h x (List.mem_cons_of_mem _ hx)⟩
theorem jne {l:Int} (h : -(g:Int)<=l/\l<=g/\l ≠ 0):col l < 2 * g:=by unfold col; split <;> omega
theorem jxz (l:Int) (w:W):inv (l :: w)=inv w ++ [-l]:=by simp [inv]
theorem jxeb (w:W):inv (inv w)=w:=by simp [inv,Function.comp_def]
theorem jojb (u v:W):inv (u ++ v)=inv v ++ inv u:=by simp [inv]
theorem jlcb (h:Inv g s):∀ {w:W} {x y:Nat},LOk g w->x < s.t.length->Way s.t x w y->Way s.t y (inv w) x:=by
 intro w
 induction w with
 | nil=>intro x y _ _ h; exact Eq.symm h
 | cons l w ih =>
   rintro x y hw hx ⟨z,h1,h2⟩
   rw [jxz]
   refine jim.2 ⟨z,ih hw.cons.2 (h1.lt h hx (jne hw.cons.1)) h2,jat.2 ?_⟩
   rw [jrq hw.cons.1.2.2]
   exact h1.back h hx (jne hw.cons.1)
theorem jhm (h0:Inv g s0) (h:Ext g s0 s1):∀ {w:W} {x y:Nat},LOk g w->x < s0.t.length->Way s0.t x w y->Way s1.t (s1.rp x) w (s1.rp y):=by
 intro w
 induction w with
 | nil=>intro x y _ _ h; have e:x=y:=h; subst e; exact rfl
 | cons l w ih =>
   rintro x y hw hx ⟨z,h1,h2⟩
   have hz:=h1.lt h0 hx (jne hw.cons.1)
   exact ⟨_,h.edge _ _ _ hx (jne hw.cons.1) h1,ih hw.cons.2 hz h2⟩
def Clo (s:St) (r:Nat) (w:W):Prop:=Way s.t (s.rp r) w (s.rp r)
theorem Clo.ext (h0:Rest g s0) (h:Ext g s0 s1) {r:Nat} (hr:r < s0.t.length) {w:W} (hw:LOk g w) (hc:Clo s0 r w):Clo s1 r w:=by
 have:=jhm h0.inv h hw (h0.inv.rlt hr) hc
 rwa [h.coarse r hr] at this
theorem jfab {w:W} {k:Nat} (hk:k<=w.length):inv ((inv w).take k)=w.drop (w.length - k):=by
 have h1:inv w=inv (w.drop (w.length - k)) ++ inv (w.take (w.length - k)):=by rw [<- jojb,List.take_append_drop]
 have h2:(inv (w.drop (w.length - k))).length=k:=by rw [jtb,List.length_drop]; omega
 rw [h1,List.take_append_of_le_length (by omega),List.take_of_length_le (by omega),jxeb]
theorem jfp (h:Rest g s) {r:Nat} (hr:r < s.t.length) (hlr:s.rp r=r) {w:W} (hw:LOk g w) {s' : St} (e:jvc (2 * g) s r w=(s',none)):Clo s' r w:=by
 obtain ⟨f1,f2,f3⟩:=jak s.t r w
 have fp:=jjq s.t r w
 obtain ⟨b1,b2,b3⟩:=jek s.t r w (fwd s.t r w)
 have bp:=jar s.t r w (fwd s.t r w)
 obtain ⟨fl,flv⟩:=jjd h hw hr hlr _ f1 fp
 obtain ⟨bl,blv⟩:=jjd h hw.inv hr hlr _ (by rw [jtb]; exact b1) bp
 have hF:=jbf _ f1 fp
 have hB:=jlcb h.inv (fun x hx=>hw.inv x (List.mem_of_mem_take hx)) hr (jbf _ (by rw [jtb]; exact b1) bp)
 rw [jfab b1] at hB
 have hnext:fwd s.t r w < w.length->s.t.at (jla s.t r w (fwd s.t r w)).toNat (col (w.getD (fwd s.t r w) 0)) < 0:=fun hlt=>by
   rcases f2 with f2 | f2
   · omega
   · rw [jnb,if_neg (by omega)] at f2
     exact f2
 have hback : ¬ w.length<=fwd s.t r w + bwd s.t r w (fwd s.t r w)->s.t.at (jla s.t r (Ct.inv w) (bwd s.t r w (fwd s.t r w))).toNat (col ((Ct.inv w).getD (bwd s.t r w (fwd s.t r w)) 0)) < 0:=fun hlt=>by
   rcases b2 with b2 | b2
   · omega
   · rw [jnb,if_neg (by omega)] at b2
     exact b2
 have hik:fwd s.t r w + bwd s.t r w (fwd s.t r w)<=w.length:=by
   rcases Nat.eq_zero_or_pos (bwd s.t r w (fwd s.t r w)) with h0 | h0
   · omega
   · have:=(b3 (bwd s.t r w (fwd s.t r w) - 1) (by omega)).1
     omega
 have hwt:∀ k,LOk g (w.take k):=fun k x hx=>hw x (List.mem_of_mem_take hx)
 have hwd:∀ k,LOk g (w.drop k):=fun k x hx=>hw x (List.mem_of_mem_drop hx)
 unfold jvc at e
 generalize hi:fwd s.t r w=i at *
 generalize hk:bwd s.t r w i=k at *
 generalize jla s.t r w i=f at *
 generalize jla s.t r (Ct.inv w) k=b at *
 unfold Clo
 by_cases h1:i=w.length
 · rw [if_pos h1] at e
   rw [h1,List.take_length] at hF
   by_cases h2:f=(r:Int)
   · rw [if_pos h2] at e
     cases e
     rw [hlr]
     rw [h2,Int.toNat_natCast] at hF
     exact hF
   · rw [if_neg h2] at e
     cases e
     obtain ⟨c1,c2,c3,c4⟩:=jrh h fl hr
     have:=jhm h.inv (Ext.of_cov c1 c2) hw hr hF
     rwa [c3] at this
 · rw [if_neg h1] at e
   by_cases h2:w.length<=i + k
   · rw [if_pos h2] at e
     cases e
     obtain ⟨c1,c2,c3,c4⟩:=jrh h fl bl
     have hE:=Ext.of_cov c1 c2
     rw [show w.length - k=i by omega] at hB
     have w1:=jhm h.inv hE (hwt i) hr hF
     have w2:=jhm h.inv hE (hwd i) bl hB
     rw [c3] at w1
     have:=jim.2 ⟨_,w1,w2⟩
     rwa [List.take_append_drop] at this
   · rw [if_neg h2] at e
     have hil:i < w.length:=by omega
     by_cases h3:w.length=i + k + 1
     · rw [if_pos h3] at e
       cases e
       have hb:=hback h2
       rw [jvt (by omega),show w.length - 1 - k=i by omega,jrq (hw.getD hil).2.2] at hb
       obtain ⟨c1,c2,c3⟩:=h.join fl bl (hw.col hil) flv blv (hnext hil) hb
       rw [show w.length - k=i + 1 by omega] at hB
       have w1:=jhm h.inv c2 (hwt i) hr hF
       have w2:=jhm h.inv c2 (hwd (i + 1)) bl hB
       rw [jwh,jwh,hlr,flv] at w1
       rw [jwh,jwh,hlr,blv] at w2
       rw [jwh,hlr]
       have:=jim.2 ⟨_,jim.2 ⟨_,w1,jat.2 c3⟩,w2⟩
       rwa [<- jpj hil,List.take_append_drop] at this
     · rw [if_neg h3] at e
       cases e
end
end Go.Proofs.Ct
namespace Go.Proofs.Ct
section
variable {g lim:Nat} {s s0 s1:St} {rels sub:List W}
theorem jrn:∀ (fuel:Nat) {s:St},Good g lim s->∀ {r:Nat},r < s.t.length->s.rp r=r->∀ {w:W},LOk g w->∀ s',jdu (2 * g) lim fuel s r w=some s'->Clo s' r w
 | 0,_,_,_,_,_,_,_,s',e=>by cases e
 | fuel + 1,s,h,r,hr,hl,w,hw,s',e=>by
   obtain ⟨a,b⟩:=jhe h.rest hr hl hw
   unfold jdu at e
   cases hsc:jvc (2 * g) s r w with
   | mk s2 o =>
     rw [hsc] at e
     cases o with
     | none =>
       simp only at e
       cases e
       exact jfp h.rest hr hl hw hsc
     | some fc =>
       obtain ⟨f,c⟩:=fc
       simp only at e
       obtain ⟨-,h2,h3,h4,h5⟩:=b _ _ _ hsc
       split at e
       · cases e
       · rename_i hne
         obtain ⟨k1,k2⟩:=h.defn h2 h3 h4 h5 (by have:=h.n2; omega)
         have hn:=jub (s:=s) (2 * g) f c
         exact jrn fuel k1 (r:=r) (by omega) (by rw [jhd h.rest.inv _ _ _ hr]; exact hl) hw s' e
theorem jlq (h:Good g lim s) {r:Nat} (hr:r < s.t.length) (hl:s.rp r=r) {w:W} (hw:LOk g w) {s' : St} (e:jvg (2 * g) lim s r w=some s'):Clo s' r w:=jrn _ h hr hl hw s' e
def RC (rels:List W) (s:St) (k:Nat):Prop:=∀ x,x < k->x < s.t.length->∀ i,i < rels.length->Clo s x (rels.getD i [])
theorem RC.ext (h0:Rest g s0) (h:Ext g s0 s1) (hr:∀ j,j < rels.length->LOk g (rels.getD j [])) {k:Nat} (hk:k<=s0.t.length) (hc:RC rels s0 k):RC rels s1 k:=fun x hx _ i hi =>
 (hc x hx (by omega) i hi).ext h0 h (by omega) (hr i hi)
theorem jqib (h:Inv g s) {r:Nat} (hr:r < s.t.length) {w:W} (hc:Clo s (s.rp r) w):Clo s r w:=by
 unfold Clo at hc ⊢
 rwa [h.rid r hr] at hc
theorem jyab (hs:∀ j,j < rels.length->LOk g (rels.getD j [])) {r:Nat} (h:Good g lim s) (hr:r < s.t.length) (hC:RC rels s r) {s' : St} {k:Nat} (e:jhb (relS (2 * g) lim rels r) k s=some s') :
   Good g lim s'/\Ext g s s'/\∀ j,j < k->j < rels.length->Clo s' r (rels.getD j []) :=
 jkc (p:=fun k x=>Good g lim x/\Ext g s x/\∀ j,j < k->j < rels.length->Clo x r (rels.getD j [])) ⟨h,Ext.refl h.rest,fun j hj=>absurd hj (by omega)⟩ k (fun i x y _ ⟨hx,hx2,hx3⟩ hy=>by
   have hrx:r < x.t.length:=Nat.lt_of_lt_of_le hr hx2.n
   unfold relS at hy
   split at hy
   · rename_i hl
     obtain ⟨a,b⟩:=jqg hx hrx hl (jjf hs LOk.nil i) hy
     refine ⟨a,hx2.trans h.rest hx.rest b,fun j hj hjl => ?_⟩
     by_cases e:j=i
     · subst e
       exact jlq hx hrx hl (hs j hjl) hy
     · exact (hx3 j (by omega) hjl).ext hx.rest b hrx (hs j hjl)
   · rename_i hl
     cases hy
     refine ⟨hx,hx2,fun j hj hjl => ?_⟩
     have h1:=hx.rest.inv.rle r hrx
     have hC':=RC.ext h.rest hx2 hs (by omega) hC
     exact jqib hx.rest.inv hrx (hC' (x.rp r) (by omega) (by omega) j hjl)) s' e
theorem jxab (hs:∀ j,j < rels.length->LOk g (rels.getD j [])) {r:Nat} (h:Good g lim s) (hr:r < s.t.length) (hC:RC rels s r) {s' : St} (e:rowS (2 * g) lim rels r s=some s'):RC rels s' (r + 1):=by
 unfold rowS at e
 cases hx:jhb (relS (2 * g) lim rels r) rels.length s with
 | none=>rw [hx] at e; cases e
 | some x =>
   rw [hx] at e
   obtain ⟨a,b,c⟩:=jyab hs h hr hC hx
   have hrx:r < x.t.length:=Nat.lt_of_lt_of_le hr b.n
   obtain ⟨a2,b2,-,-⟩:=jku a hrx (Nat.le_refl _) e
   have hE:=b.trans h.rest a.rest b2
   intro y hy hyn i hi
   rcases Nat.lt_or_ge y r with h1 | h1
   · exact RC.ext h.rest hE hs (by omega) hC y h1 hyn i hi
   · obtain rfl:y=r:=by omega
     exact (c i hi hi).ext a.rest b2 hrx (hs i hi)
theorem jqab (hg:1<=lim) (hs:∀ j,j < sub.length->LOk g (sub.getD j [])) {s' : St} {k:Nat} (e:jhb (subS (2 * g) lim sub) k (jwb (2 * g))=some s') :
   Good g lim s'/\∀ j,j < k->j < sub.length->Clo s' 0 (sub.getD j []) :=
 jkc (p:=fun k s=>Good g lim s/\∀ j,j < k->j < sub.length->Clo s 0 (sub.getD j [])) ⟨jdg hg,fun j hj=>absurd hj (by omega)⟩ k (fun i x y _ ⟨hx,hx2⟩ hy=>by
   obtain ⟨a,b⟩:=jqg hx hx.n1 (rp_zero hx.rest hx.n1) (jjf hs LOk.nil i) hy
   refine ⟨a,fun j hj hjl => ?_⟩
   by_cases e:j=i
   · subst e
     exact jlq hx hx.n1 (rp_zero hx.rest hx.n1) (hs j hjl) hy
   · exact (hx2 j (by omega) hjl).ext hx.rest b hx.n1 (hs j hjl)) s' e
theorem jtab (hg:1<=lim) (hr:∀ j,j < rels.length->LOk g (rels.getD j [])) (hs:∀ j,j < sub.length->LOk g (sub.getD j [])) {s' : St} (e:runS (2 * g) lim rels sub=some s') :
   RC rels s' s'.t.length/\∀ j,j < sub.length->Clo s' 0 (sub.getD j []):=by
 unfold runS at e
 cases hx:jhb (subS (2 * g) lim sub) sub.length (jwb (2 * g)) with
 | none=>rw [hx] at e; cases e
 | some x =>
   rw [hx] at e
   obtain ⟨hG,hsub⟩:=jqab hg hs hx
   obtain ⟨a,b,c⟩:=jkc (p:=fun k y=>Good g lim y/\(RC rels y k/\Comp g y k)/\∀ j,j < sub.length->Clo y 0 (sub.getD j [])) ⟨hG,⟨fun x hx=>absurd hx (by omega),fun x hx=>absurd hx (by omega)⟩,fun j hj=>hsub j hj hj⟩ lim (fun r x y _ ⟨hx1,⟨hx2,hx3⟩,hx4⟩ hy=>by
     unfold jtg at hy
     split at hy
     · rename_i hlt
       obtain ⟨a,b,c⟩:=joz hr hx1 hlt hx3 hy
       exact ⟨a,⟨jxab hr hx1 hlt hx2 hy,c⟩,fun j hj=>(hx4 j hj).ext hx1.rest b hx1.n1 (hs j hj)⟩
     · rename_i hlt
       cases hy
       exact ⟨hx1,⟨fun z _ hzn=>hx2 z (by omega) hzn,fun z _ hzn c hcc=>hx3 z (by omega) hzn c hcc⟩,hx4⟩) s' e
   exact ⟨fun z hz hzn=>b.1 z (by have:=a.n2; omega) hzn,c⟩
theorem jdz (h:Rest g s) {x y c:Nat} (hx:x < s.t.length) (hc:c < 2 * g) (he:Edge s.t x c y):num s x < (tabS s).length/\Edge (tabS s) (num s x) c (num s y):=by
 obtain ⟨h1,h2,h3⟩:=h.live hx hc he
 obtain ⟨k1,k2⟩:=jln (n:=s.t.length) hx h1
 refine ⟨by rw [jyd]; exact k1, ?_⟩
 unfold Edge
 have h4:(liv s).getD (num s x) 0=x:=k2
 rw [jsib k1 (by rw [h4,h.inv.len x hx]; exact hc),h4,show s.t.at x c=(y:Int) from he,Int.toNat_natCast]
theorem jpcb (h:Rest g s):∀ {w:W} {x y:Nat},LOk g w->x < s.t.length->Way s.t x w y->Way (tabS s) (num s x) w (num s y):=by
 intro w
 induction w with
 | nil=>intro x y _ _ e; have e:x=y:=e; rw [e]; exact rfl
 | cons l w ih =>
   rintro x y hw hx ⟨z,h1,h2⟩
   have hz:=h1.lt h.inv hx (jne hw.cons.1)
   exact ⟨_,(jdz h hx (jne hw.cons.1) h1).2,ih hw.cons.2 hz h2⟩
theorem jnr (h:Rest g s) (hr:∀ j,j < rels.length->LOk g (rels.getD j [])) (hC:RC rels s s.t.length):∀ i,i < (tabS s).length->∀ j,j < rels.length->Way (tabS s) i (rels.getD j []) i:=fun i hi j hj=>by
 rw [jyd] at hi
 obtain ⟨h1,h2,h3⟩:=jah (s:=s) s.t.length i hi
 have:=hC _ h1 h1 j hj
 unfold Clo at this
 rw [h2] at this
 have h4:=jpcb h (hr j hj) h1 this
 rwa [h3] at h4
theorem jwo (h:Rest g s) (hn:1<=s.t.length) {w:W} (hw:LOk g w) (hC:Clo s 0 w):Way (tabS s) 0 w 0:=by
 unfold Clo at hC
 rw [rp_zero h hn] at hC
 exact jpcb h hw hn hC
end
end Go.Proofs.Ct
