/- Words for memory: slices that read as lists; slices of the call's own that grow; slices.IndexFunc and slices.ContainsFunc at a list of numbers, for a predicate that only reads; coset.Check; cayleyref18.Check and Complete. -/
import Derived.WalkKit
import Derived.WalkSpells
import Derived.WalkLawsBesides
import Derived.Lib.Hide
import Derived.Deep.QuietTactic
import Derived.BigQuiet
import Derived.KernelRfl
import Derived.Shelf.Abstract
import Derived.Laws.AppendOwn
import Derived.Maps.AppendAt
import Derived.Maps.OwnSet
import Derived.Maps.OwnOps
import Derived.Deep.AppendSrc
import Derived.Test.YtmpnengjboabcaaProg
import Derived.Test.YtmpnengjboabcaaFsCS1
namespace Go.Proofs
open Go.RowKit
def Row (w:World) (b off:Nat) (vs:List Value):Prop:=∀ j v,vs[j]?=some v->w.cell? ⟨b,off + j,none⟩=some v
def Sl (w:World) (v:Value) (vs:List Value):Prop :=
 ∃ A n cap,v=.slice A n cap/\n=vs.length/\n<=cap/\cap<=maxLen/\(0 < n->∃ b off,A=some ⟨b,off,none⟩/\Row w b off vs)
def ints (xs:List Int):List Value:=xs.map (Value.int .i64)
def Fits (xs:List Int):Prop:=∀ x ∈ xs,-9223372036854775808<=x/\x<=9223372036854775807
def jma (w:World) (v:Value) (xs:List Int):Prop:=Sl w v (ints xs)/\Fits xs
section
variable {w w' : World} {v:Value} {vs:List Value}
theorem Row.keep {b off:Nat} (h:Row w b off vs) (hk:∀ p:Addr,p.block < w.heap.size->w'.cell? p=w.cell? p):Row w' b off vs:=by
 intro j u hu
 have:=h j u hu
 rw [hk _ (World.block_lt_of_cell? w _ this)]
 exact this
theorem Sl.keep (h:Sl w v vs) (hk:∀ p:Addr,p.block < w.heap.size->w'.cell? p=w.cell? p):Sl w' v vs:=by
 obtain ⟨A,n,cap,h1,h2,h3,h4,h5⟩:=h
 exact ⟨A,n,cap,h1,h2,h3,h4,fun hn=>let ⟨b,off,ha,hr⟩:=h5 hn; ⟨b,off,ha,hr.keep hk⟩⟩
theorem Sl.below (h:Sl w v vs) (hb:Below w.heap.size w w'):Sl w' v vs:=h.keep fun _ hp=>hb.cell hp
theorem jma.below {xs:List Int} (h:jma w v xs) (hb:Below w.heap.size w w'):jma w' v xs:=⟨h.1.below hb,h.2⟩
theorem jma.drewN {xs:List Int} (h:jma w v xs) (k:Nat):jma (w.drewN k) v xs:=h
theorem jma.open_ {xs:List Int} (h:jma w v xs):∃ A cap,v=.slice A xs.length cap/\xs.length<=cap/\cap<=9223372036854775807 /\
   (0 < xs.length->∃ b off,A=some ⟨b,off,none⟩/\∀ k,k < xs.length->w.cell? ⟨b,off + k,none⟩=some (.int .i64 (xs.getD k 0))):=by
 obtain ⟨⟨A,n,cap,h1,h2,h3,h4,h5⟩,hf⟩:=h
 have hl:n=xs.length:=by simpa [ints] using h2
 subst hl
 refine ⟨A,cap,h1,h3,by simpa [maxLen] using h4,fun hn => ?_⟩
 obtain ⟨b,off,ha,hr⟩:=h5 hn
 refine ⟨b,off,ha,fun k hk=>hr k _ ?_⟩
 simp [ints,List.getElem?_map,List.getD_eq_getElem?_getD,List.getElem?_eq_getElem hk]
theorem Fits.at_ {xs:List Int} (h:Fits xs) (k:Nat) : -9223372036854775808<=xs.getD k 0/\xs.getD k 0<=9223372036854775807:=by
 rw [List.getD_eq_getElem?_getD]
 rcases Nat.lt_or_ge k xs.length with hk | hk
 · rw [List.getElem?_eq_getElem hk]; exact h _ (List.getElem_mem hk)
 · rw [List.getElem?_eq_none hk]; simp
end
def LAt {α:Type} (R:World->Value->α->Prop) (d:α) (w:World) (v:Value) (xs:List α):Prop :=
 ∃ vs,Sl w v vs/\vs.length=xs.length/\∀ i,i < xs.length->∃ u,vs[i]?=some u/\R w u (xs.getD i d)
def Kept {α:Type} (R:World->Value->α->Prop):Prop:=∀ w w' v x,(∀ k,k < w.heap.size->w'.heap[k]?=w.heap[k]?)->R w v x->R w' v x
theorem jyq {w w' : World} (h:∀ k,k < w.heap.size->w'.heap[k]?=w.heap[k]?) (p:Addr) (hp:p.block < w.heap.size):w'.cell? p=w.cell? p:=World.cell?_of_block (h p.block hp)
theorem jie:Kept jma:=fun _ _ _ _ hk h=>⟨h.1.keep (jyq hk),h.2⟩
theorem jclb {α:Type} {R:World->Value->α->Prop} {d:α} (hR:Kept R):Kept (LAt R d):=fun _w _w' _v _xs hk ⟨vs,h1,h2,h3⟩ =>
 ⟨vs,h1.keep (jyq hk),h2,fun i hi=>let ⟨u,hu,hr⟩:=h3 i hi; ⟨u,hu,hR _ _ _ _ hk hr⟩⟩
abbrev Tab:=LAt jma []
theorem jda:Kept Tab:=jclb jie
theorem Kept.below {α:Type} {R:World->Value->α->Prop} (hR:Kept R) {w w' : World} {v:Value} {x:α} (h:R w v x) (hb:Below w.heap.size w w'):R w' v x:=hR _ _ _ _ hb.block h
theorem LAt.open_ {α:Type} {R:World->Value->α->Prop} {d:α} {w:World} {v:Value} {xs:List α} (h:LAt R d w v xs):∃ A cap,v=.slice A xs.length cap/\xs.length<=cap/\cap<=9223372036854775807 /\
   (0 < xs.length->∃ b off,A=some ⟨b,off,none⟩/\∀ k,k < xs.length->∃ u,w.cell? ⟨b,off + k,none⟩=some u/\R w u (xs.getD k d)):=by
 obtain ⟨vs,⟨A,n,cap,h1,h2,h3,h4,h5⟩,hl,he⟩:=h
 have hn:n=xs.length:=h2.trans hl
 subst hn
 refine ⟨A,cap,h1,h3,by simpa [maxLen] using h4,fun hn => ?_⟩
 obtain ⟨b,off,ha,hr⟩:=h5 hn
 refine ⟨b,off,ha,fun k hk => ?_⟩
 obtain ⟨u,hu,hru⟩:=he k hk
 exact ⟨u,hr k u hu,hru⟩
theorem jza {P:Program} {f:FuncId} {args:Array Value} {w:World} {a n:Nat} {v:Value}
   (h:Calls P f args (w.drewN (a + n)) fun e w'=>e=.returned v/\w.drewN (a + n)=w') :
   Calls P f args (w.drewN (a + n)) fun e w''=>e=.returned v/\∃ m,w''=w.drewN (a + m) :=
 h.mono fun _ _ ⟨he,hm⟩=>⟨he,n,hm.symm⟩
theorem jcf {P:Program} {f:FuncId} {args:Array Value} {w:World} {n:Nat} {v:Value}
   (h:Calls P f args (w.drewN n) fun e w'=>e=.returned v/\w.drewN n=w'):Calls P f args (w.drewN n) fun e w''=>e=.returned v/\∃ m,w''=w.drewN m :=
 h.mono fun _ _ ⟨he,hm⟩=>⟨he,n,hm.symm⟩
theorem jsa {a b:Bool} (h:a=b):Ending.returned (.bool a)=Ending.returned (.bool b):=by rw [h]
theorem jrc {k:IntKind} {a b:Int} (h:a=b):Ending.returned (.int k a)=Ending.returned (.int k b):=by rw [h]
theorem jxh {u v:Value} {l:IntKind} {b d:Int} (h:u=v) (h' : b=d):Ending.returned (.tuple #[u,.int l b])=Ending.returned (.tuple #[v,.int l d]):=by rw [h,h']
theorem jqb {k l:IntKind} {a b c d:Int} (h:a=c) (h' : b=d):Ending.returned (.tuple #[.int k a,.int l b])=Ending.returned (.tuple #[.int k c,.int l d]):=by rw [h,h']
theorem below_drewN {B:Nat} {a w:World} (h:Below B a w) (n:Nat):Below B a (w.drewN n):=⟨h.os,h.tape,h.output,h.size,h.block⟩
theorem jxt (a b:List Int):ints (a ++ b)=ints a ++ ints b:=by simp [ints]
theorem jbe {α:Type} {d:α} {A B:List α} (hl:A.length=B.length) (h:∀ k,k < A.length->A.getD k d=B.getD k d):A=B:=by
 apply List.ext_getElem hl
 intro i h1 h2
 have:=h i h1
 simpa [List.getD_eq_getElem?_getD,h1,h2] using this
theorem jhy {α:Type} {d:α} {A B:List α} {k:Nat} (h:A.getD k d ≠ B.getD k d):A ≠ B:=fun e=>h (by rw [e])
theorem job {w:World} {n m:Nat}:∃ q,(w.drewN n).drewN m=w.drewN q:=⟨_,World.drewN_drewN _ _ _⟩
theorem jeb {p:Nat->Prop} {k:Nat} (h:∀ j,j < k->p j) (hk:p k):∀ j,j < k + 1->p j:=fun j hj=>by
 rcases Nat.lt_or_ge j k with h1 | h1
 · exact h j h1
 · obtain rfl:j=k:=by omega
   exact hk
theorem jsh {w:World}:Tab w (.slice none 0 0) []:=⟨[],⟨none,0,0,rfl,rfl,Nat.le_refl _,by simp [maxLen],fun h=>absurd h (by omega)⟩,rfl,fun i hi=>absurd hi (by simp)⟩
def jzfb:World->List Obj->World
 | w, []=>w
 | w,o :: os=>jzfb (w.alloc o) os
theorem jnj:∀ (os:List Obj) (w:World) (n:Nat),n<=w.heap.size->Below n w (jzfb w os)
 | [],_,_,_=>Below.refl _ _
 | o :: os,w,n,h=>((Below.refl n w).alloc h o).trans (jnj os (w.alloc o) n (by simp; omega))
theorem jfk:∀ (os:List Obj) (w:World) (i:Nat) (o:Obj),os[i]?=some o->(jzfb w os).heap[w.heap.size + i]?=some o
 | [],_,_,_,h=>by simp at h
 | o :: os,w,0,o',h=>by
   have e:o=o':=by simpa using h
   subst e
   have hb:=jnj os (w.alloc o) (w.heap.size + 1) (by simp)
   exact (hb.block w.heap.size (by omega)).trans (heap_alloc_new w o)
 | o :: os,w,i + 1,o',h=>by
   have:=jfk os (w.alloc o) i o' (by simpa using h)
   rw [World.size_alloc] at this
   rw [show w.heap.size + (i + 1)=w.heap.size + 1 + i by omega]
   exact this
section
variable {ops:Array Oper} {rest:List Oper} {o:Oper} {a:Act} {w w' : World} {Q:Exit->Act->World->Prop} {v:Value}
theorem jea (s:Nat) {op:Op} {t:TypeId} {p:String} {af:Array Edge} {g:Option (Nat × Bool)} (h:wpList Try.prog ops Q (⟨some s,op,t,p,af,g⟩ :: rest) a w):wpList Try.prog ops Q (⟨some s,op,t,p,af,g⟩ :: rest) a w:=h
theorem jpi (T:TypeId) (x y:Nat) {t:TypeId} {p:String} {af:Array Edge} {g:Option (Nat × Bool)} (h:wpList Try.prog ops Q (⟨none,.store T (.tmp x) (.tmp y),t,p,af,g⟩ :: rest) a w):wpList Try.prog ops Q (⟨none,.store T (.tmp x) (.tmp y),t,p,af,g⟩ :: rest) a w:=h
theorem jca (hg:o.guard=none) (hrun:(execOp a.eval o).run Try.prog w=.ok (.value v) w') (h:wpList Try.prog ops Q rest (a.put o.dst v) w'):wpList Try.prog ops Q (o :: rest) a w :=
 wpList_plain hg fun _ hK=>by
   unfold Oper.wp
   rw [hrun]
   exact hK _ _ h
theorem wpList_skip (hg:o.guard=none) (hrun:(execOp a.eval o).run Try.prog w=.ok .skip w') (h:wpList Try.prog ops Q rest (a.put o.dst undef) w'):wpList Try.prog ops Q (o :: rest) a w :=
 wpList_plain hg fun _ hK=>by
   unfold Oper.wp
   rw [hrun]
   exact hK _ _ h
theorem jnf (s x:Operand) (t:TypeId) {sv xv v' : Value} (ho:o.op=.call { callee:=.builtin .append,args := #[s,x],argTypes := #[t,t] }) (hs:a.eval s=sv) (hx:a.eval x=xv)
   (hr:(Builtin.append_ #[t,t] o.type #[sv,xv]).run Try.prog w=.ok v' w'):(execOp a.eval o).run Try.prog w=.ok (.value v') w':=by
 unfold execOp
 simp only [ho,resolve,invoke,builtin,Sem.run_bind,Sem.run_pure,Result.andThen_ok,List.map_toArray,List.map_cons,List.map_nil,hs,hx,hr]
end
theorem jga {w:World} {base e n:Nat} {v:Value} {xs:List Value} (h:w.ownsRow base e 1 v n xs):∀ r,v.ownBlock=some r->base<=r/\∃ C,w.heap[r]?=some (.cells C e (0,0)):=fun r hr=>by
 rcases h.2 with ⟨rfl,-⟩ | ⟨g,cap,cur,rfl,hb,hg,-⟩
 · cases hr
 · have:g=r:=Option.some.inj hr
   subst this
   exact ⟨hb,cur,hg⟩
theorem jwc {w:World} {base e n:Nat} {v:Value} {xs:List Value} (h:w.ownsRow base e 1 v n xs) {r:Nat} (hr:v.ownBlock=some r):r < w.heap.size:=by
 obtain ⟨-,C,hC⟩:=jga h r hr
 exact (Array.getElem?_eq_some_iff.1 hC).1
theorem jna {w w' : World} {base e size n:Nat} {v:Value} {xs:List Value} (h:w.ownsRow base e size v n xs) (hb:∀ r,v.ownBlock=some r->w'.heap[r]?=w.heap[r]?):w'.ownsRow base e size v n xs:=by
 obtain ⟨h1,h2⟩:=h
 refine ⟨h1, ?_⟩
 rcases h2 with h2 | ⟨g,cap,cur,a,b,hg,r⟩
 · exact .inl h2
 · exact .inr ⟨g,cap,cur,a,b,(hb g (by rw [a]; rfl)).trans hg,r⟩
theorem jgc {w:World} {base e n:Nat} {v:Value} {xs:List Value} (h:w.ownsRow base e 1 v n xs):∃ A c,v=.slice A n c:=by
 rcases h.2 with ⟨rfl,rfl⟩ | ⟨g,cap,cur,rfl,-⟩
 · exact ⟨none,0,rfl⟩
 · exact ⟨_,_,rfl⟩
theorem joe {w w' : World} {base e size n:Nat} {v:Value} {xs:List Value} (h:w.ownsRow base e size v n xs) (hb:Below w.heap.size w w'):w'.ownsRow base e size v n xs:=by
 obtain ⟨h1,h2⟩:=h
 refine ⟨h1, ?_⟩
 rcases h2 with h2 | ⟨g,cap,cur,a,b,hg,r⟩
 · exact .inl h2
 · exact .inr ⟨g,cap,cur,a,b,(hb.block _ (Array.getElem?_eq_some_iff.1 hg).1).trans hg,r⟩
theorem jmg {w:World} {base base' e size n:Nat} {v:Value} {xs:List Value} (h:w.ownsRow base e size v n xs) (hb:base'<=base):w.ownsRow base' e size v n xs:=by
 obtain ⟨h1,h2⟩:=h
 refine ⟨h1, ?_⟩
 rcases h2 with h2 | ⟨g,cap,cur,a,b,r⟩
 · exact .inl h2
 · exact .inr ⟨g,cap,cur,a,Nat.le_trans hb b,r⟩
theorem jqj {w:World} {base e n:Nat} {v:Value} {xs:List Value} (h:w.ownsRow base e 1 v n xs):Sl w v xs:=by
 obtain ⟨hl,h⟩:=h
 rcases h with ⟨rfl,rfl⟩ | ⟨g,cap,cur,rfl,hbg,hg,hnc,hcm,hcs,htake⟩
 · exact ⟨none,0,0,rfl,by simpa using hl.symm,Nat.le_refl _,by simp [maxLen],fun h=>absurd h (by omega)⟩
 · refine ⟨_,n,cap,rfl,by omega,hnc,hcm,fun _=>⟨g,0,rfl,fun j u hu => ?_⟩⟩
   rw [cell_of_row _ _ _ _ _ _ hg,Nat.zero_add]
   rw [<- htake,List.getElem?_take] at hu
   split at hu
   · simpa using hu
   · cases hu
abbrev OwnI (base:Nat) (w:World) (v:Value) (xs:List Int):Prop:=w.ownsRow base 3 1 v xs.length (ints xs)
theorem OwnI.ints {base:Nat} {w:World} {v:Value} {xs:List Int} (h:OwnI base w v xs) (hf:Fits xs):jma w v xs:=⟨jqj h,hf⟩
theorem jvl:∃ i,Try.prog.info? 3=some i/\i.zero=some (.int .i64 0)/\i.size=1/\i.bytes=8:=by
 have h:(Try.prog.info? 3).map (fun i=>(i.zero,i.size,i.bytes))=some (some (.int .i64 0),1,8):=by kernel_rfl
 cases hq:Try.prog.info? 3 with
 | none=>simp [hq] at h
 | some i=>simp [hq] at h; exact ⟨i,rfl,h⟩
theorem jbl:∃ i,Try.prog.info? 24=some i/\i.zero=some (.slice none 0 0)/\i.size=1/\i.bytes=24:=by
 have h:(Try.prog.info? 24).map (fun i=>(i.zero,i.size,i.bytes))=some (some (.slice none 0 0),1,24):=by kernel_rfl
 cases hq:Try.prog.info? 24 with
 | none=>simp [hq] at h
 | some i=>simp [hq] at h; exact ⟨i,rfl,h⟩
theorem jyeb:∃ i,Try.prog.info? 25=some i/\i.zero=some (.slice none 0 0)/\i.size=1/\i.bytes=24:=by
 have h:(Try.prog.info? 25).map (fun i=>(i.zero,i.size,i.bytes))=some (some (.slice none 0 0),1,24):=by kernel_rfl
 cases hq:Try.prog.info? 25 with
 | none=>simp [hq] at h
 | some i=>simp [hq] at h; exact ⟨i,rfl,h⟩
theorem jgo {t ty e:TypeId} {z:Value} {bytes:Nat} (ht:Try.prog.underlying t=some (.slice e)) (hi:∃ i,Try.prog.info? e=some i/\i.zero=some z/\i.size=1/\i.bytes=bytes) (hz:z.cells.size=1) (hby:bytes<=1000)
   (w:World) (base:Nat) (v:Value) (n:Nat) (xs:List Value) (hown:w.ownsRow base e 1 v n xs) (x:Value) (h1:x.oneCell'=true) (hn:n<=10000000) (hb:base<=w.heap.size) :
   ∃ A' c' w',(Builtin.append_ #[t,t] ty #[v,.slice (some ⟨w.heap.size,0,none⟩) 1 1]).run Try.prog (w.alloc (.cells #[x] e))=.ok (.slice A' (n + 1) c') w'/\w'.ownsRow base e 1 (.slice A' (n + 1) c') (n + 1) (xs ++ [x]) /\
     w.grownBy w' v.ownBlock/\((Value.slice A' (n + 1) c').ownBlock=v.ownBlock\/∃ r,(Value.slice A' (n + 1) c').ownBlock=some r/\w.heap.size<=r):=by
 obtain ⟨i,hi,hz',hs,hb'⟩:=hi
 have hal:Below w.heap.size w (w.alloc (.cells #[x] e)):=(Below.refl _ _).alloc (Nat.le_refl _) _
 obtain ⟨v',w',hr,hown',hg,-,hw⟩:=run_append_own_at (P:=Try.prog) (w.alloc (.cells #[x] e)) base t ty e i z 1 bytes ht hi hz' hs hb' hz (by omega) v n xs (joe hown hal) ⟨w.heap.size,0,none⟩ 1 1 [x] rfl (cell_one_new _ _ _) (fun u hu=>by simp at hu; rw [hu]; exact h1) (by unfold maxLen; omega)
   (by have:(n + 1) * bytes<=10000001 * 1000:=Nat.mul_le_mul (by omega) hby
       omega) (by have:=hal.size; omega)
 obtain ⟨A',c',rfl⟩:=jgc hown'
 refine ⟨A',c',w',hr,hown', ?_, ?_⟩
 · have h2:=hg
   exact ⟨h2.os,h2.tape,h2.output,Nat.le_trans hal.size h2.size,fun k hk hne=>(h2.block k (Nat.lt_of_lt_of_le hk hal.size) hne).trans (hal.block k hk)⟩
 · rcases hw with hw | hw
   · exact .inl hw
   · exact .inr ⟨_,hw,by simp⟩
theorem jyh (ty:TypeId) (t:TypeId) (ht:Try.prog.underlying t=some (.slice 3)) (w:World) (base:Nat) (v:Value) (xs:List Int) (h:OwnI base w v xs) (z:Int) (hx:xs.length<=10000000) (hb:base<=w.heap.size) :
   ∃ A' c' w',(Builtin.append_ #[t,t] ty #[v,.slice (some ⟨w.heap.size,0,none⟩) 1 1]).run Try.prog (w.alloc (.cells #[.int .i64 z] 3))=.ok (.slice A' (xs.length + 1) c') w'/\OwnI base w' (.slice A' (xs.length + 1) c') (xs ++ [z]) /\
     w.grownBy w' v.ownBlock/\((Value.slice A' (xs.length + 1) c').ownBlock=v.ownBlock\/∃ r,(Value.slice A' (xs.length + 1) c').ownBlock=some r/\w.heap.size<=r):=by
 obtain ⟨A',c',w',hr,ho,hg,hw⟩:=jgo (ty:=ty) ht jvl rfl (by omega) w base v xs.length (ints xs) h (.int .i64 z) rfl hx hb
 refine ⟨A',c',w',hr, ?_,hg,hw⟩
 show w'.ownsRow base 3 1 _ (xs ++ [z]).length (ints (xs ++ [z]))
 rw [jxt,List.length_append]
 exact ho
def Ag (F:Nat->Prop) (w w' : World):Prop:=∀ k,F k->w'.heap[k]?=w.heap[k]?
theorem Ag.refl (F:Nat->Prop) (w:World):Ag F w w:=fun _ _=>rfl
theorem Ag.trans {F:Nat->Prop} {a b c:World} (h:Ag F a b) (k:Ag F b c):Ag F a c:=fun i hi=>(k i hi).trans (h i hi)
theorem Ag.grown {F:Nat->Prop} {w w' : World} {row:Option Nat} (hg:w.grownBy w' row) (hF:∀ k,F k->k < w.heap.size/\row ≠ some k):Ag F w w':=fun k hk=>hg.block k (hF k hk).1 (fun e=>(hF k hk).2 e.symm)
def jtf (F:Nat->Prop) (w:World) (u:Value) (x:List Int):Prop:=∀ w',Ag F w w'->jma w' u x
theorem jtf.at_ {F:Nat->Prop} {w:World} {u:Value} {x:List Int} (h:jtf F w u x):jma w u x:=h w (Ag.refl _ _)
theorem jtf.keep {F:Nat->Prop} {w w' : World} {u:Value} {x:List Int} (h:jtf F w u x) (ha:Ag F w w'):jtf F w' u x:=fun w'' h'=>h w'' (ha.trans h')
theorem jtf.mono {F G:Nat->Prop} {w:World} {u:Value} {x:List Int} (h:jtf F w u x) (hg:∀ k,F k->G k):jtf G w u x:=fun w' h'=>h w' fun k hk=>h' k (hg k hk)
theorem jtf.of_own {base:Nat} {w:World} {v:Value} {xs:List Int} (h:OwnI base w v xs) (hf:Fits xs):jtf (fun k=>v.ownBlock=some k) w v xs:=fun _w' hw=>OwnI.ints (jna h fun r hr=>hw r hr) hf
theorem jtf.of_at {w:World} {v:Value} {xs:List Int} (h:jma w v xs):jtf (fun k=>k < w.heap.size) w v xs:=fun _w' hw=>jie _ _ _ _ (fun k hk=>hw k hk) h
def jeo (F:Nat->Prop) (w:World) (vals:List Value) (xs:List (List Int)):Prop:=vals.length=xs.length/\∀ j,j < xs.length->∃ u,vals[j]?=some u/\jtf F w u (xs.getD j [])
theorem jeo.keep {F G:Nat->Prop} {w w' : World} {vals:List Value} {xs:List (List Int)} (h:jeo F w vals xs) (ha:Ag F w w') (hg:∀ k,F k->G k):jeo G w' vals xs :=
 ⟨h.1,fun j hj=>let ⟨u,hu,hx⟩:=h.2 j hj; ⟨u,hu,(hx.keep ha).mono hg⟩⟩
theorem jeo.nil (F:Nat->Prop) (w:World):jeo F w [] []:=⟨rfl,fun j hj=>absurd hj (by simp)⟩
theorem jeo.snoc {F:Nat->Prop} {w:World} {vals:List Value} {xs:List (List Int)} (h:jeo F w vals xs) {u:Value} {x:List Int} (hu:jtf F w u x):jeo F w (vals ++ [u]) (xs ++ [x]):=by
 refine ⟨by simp [h.1],fun j hj => ?_⟩
 rcases Nat.lt_or_ge j xs.length with hl | hl
 · obtain ⟨u',h1,h2⟩:=h.2 j hl
   refine ⟨u',by rw [List.getElem?_append_left (by rw [h.1]; exact hl)]; exact h1, ?_⟩
   rw [show (xs ++ [x]).getD j []=xs.getD j [] by simp [List.getD_eq_getElem?_getD,List.getElem?_append_left hl]]
   exact h2
 · obtain rfl:j=xs.length:=by simp at hj; omega
   refine ⟨u,by rw [List.getElem?_append_right (by rw [h.1]; exact Nat.le_refl _),h.1]; simp, ?_⟩
   rw [show (xs ++ [x]).getD xs.length []=x by simp [List.getD_eq_getElem?_getD]]
   exact hu
def OwnT (e:TypeId) (base:Nat) (F:Nat->Prop) (w:World) (v:Value) (xs:List (List Int)):Prop:=∃ vals,w.ownsRow base e 1 v xs.length vals/\jeo F w vals xs
theorem OwnT.tab {e:TypeId} {base:Nat} {F:Nat->Prop} {w:World} {v:Value} {xs:List (List Int)} (h:OwnT e base F w v xs):Tab w v xs:=by
 obtain ⟨vals,h1,h2⟩:=h
 exact ⟨vals,jqj h1,h2.1,fun i hi=>let ⟨u,hu,hx⟩:=h2.2 i hi; ⟨u,hu,hx.at_⟩⟩
theorem OwnT.keep {e:TypeId} {base:Nat} {F G:Nat->Prop} {w w' : World} {v:Value} {xs:List (List Int)} (h:OwnT e base F w v xs) (hv:∀ r,v.ownBlock=some r->w'.heap[r]?=w.heap[r]?) (ha:Ag F w w') (hg:∀ k,F k->G k):OwnT e base G w' v xs :=
 let ⟨vals,h1,h2⟩:=h; ⟨vals,jna h1 hv,h2.keep ha hg⟩
theorem jlt {t ty e:TypeId} (ht:Try.prog.underlying t=some (.slice e)) (hi:∃ i,Try.prog.info? e=some i/\i.zero=some (.slice none 0 0)/\i.size=1/\i.bytes=24) (w:World) (base:Nat) (F:Nat->Prop) (v:Value) (xs:List (List Int)) (h:OwnT e base F w v xs) (A:Option Addr) (n c:Nat) (x:List Int)
   (hx:jtf F w (.slice A n c) x) (hF:∀ k,F k->k < w.heap.size/\v.ownBlock ≠ some k) (hl:xs.length<=10000000) (hb:base<=w.heap.size) :
   ∃ A' c' w',(Builtin.append_ #[t,t] ty #[v,.slice (some ⟨w.heap.size,0,none⟩) 1 1]).run Try.prog (w.alloc (.cells #[.slice A n c] e))=.ok (.slice A' (xs.length + 1) c') w'/\OwnT e base F w' (.slice A' (xs.length + 1) c') (xs ++ [x]) /\
     w.grownBy w' v.ownBlock/\((Value.slice A' (xs.length + 1) c').ownBlock=v.ownBlock\/∃ r,(Value.slice A' (xs.length + 1) c').ownBlock=some r/\w.heap.size<=r):=by
 obtain ⟨vals,h1,h2⟩:=h
 obtain ⟨A',c',w',hr,ho,hg,hw⟩:=jgo (ty:=ty) ht hi rfl (by omega) w base v xs.length vals h1 (.slice A n c) rfl hl hb
 refine ⟨A',c',w',hr,⟨vals ++ [.slice A n c], ?_, ?_⟩,hg,hw⟩
 · rw [List.length_append]; exact ho
 · have ha:=Ag.grown hg hF
   exact (h2.keep ha fun _ h=>h).snoc (hx.keep ha)
end Go.Proofs
namespace Go.Proofs
open Go.RowKit Go.Shelf
def jfcb (g:Nat) (lb:Array Value) (ok:Int->Prop) (p:Int->Bool) (w:World):Prop :=
 ∀ (x:Int) (q:Nat),ok x->Calls Try.prog g (#[.int .i64 x] ++ lb) (w.drewN q) fun e w'=>e=.returned (.bool (p x))/\∃ q',w'=w.drewN q'
def jxy (b:Bool) (e:Ending):Prop:=∃ r:Int,e=.returned (.int .i64 r)/\decide (0<=r)=b
theorem jmj {p:Int->Bool} {xs:List Int} (h:∀ j,j < xs.length->p (xs.getD j 0)=false):xs.any p=false:=by
 rw [List.any_eq_false]
 intro x hx
 obtain ⟨c,hc,rfl⟩:=List.mem_iff_getElem.1 hx
 have:=h c hc
 rw [List.getD_eq_getElem?_getD,List.getElem?_eq_getElem hc] at this
 simpa using this
theorem jel {p:Int->Bool} {xs:List Int} {k:Nat} (hk:k < xs.length) (h:p (xs.getD k 0)=true):xs.any p=true:=by
 rw [List.any_eq_true]
 rw [List.getD_eq_getElem?_getD,List.getElem?_eq_getElem hk] at h
 exact ⟨_,List.getElem_mem hk,h⟩
section
variable (g:Nat) (lb:Array Value) (ok:Int->Prop) (p:Int->Bool) (w:World) (eg:∀ args w,(callFunc g args).run Try.prog w=.ok (.enter g args) w) (hp:jfcb g lb ok p w) (v:Value) (xs:List Int) (h:jma w v xs) (hok:∀ x ∈ xs,ok x)
include eg hp h hok
set_option maxHeartbeats 400000 in
theorem jnbb:Calls Try.prog 184 #[v,.func (.func g) #[] lb] w fun e w'=>jxy (xs.any p) e/\∃ q,w'=w.drewN q:=by
 obtain ⟨A,c,rfl,hc1,hc2,hc⟩:=h.open_
 have HC:=Lib.hid hc
 have HP:=Lib.hid hp
 have HK:=Lib.hid hok
 clear hc hp h hok
 go_enter Try.func184,Try.ntmps184
 go_wp2_with fail
 go_loopw [5,8] (fun _ i wr=>∃ k:Nat,k<=xs.length/\i=.int .i64 k/\(∀ j,j < k->p (xs.getD j 0)=false)/\∃ q,wr=w.drewN q) (fun _ i _=>xs.length - (intOf i).toNat)
 case atStart=>exact ⟨0,Nat.zero_le _,rfl,fun j hj=>absurd hj (by omega),0,rfl⟩
 case round =>
   obtain ⟨k,hk,rfl,hz,q,rfl⟩:=hrel
   have HZ:=Lib.hid hz
   clear hz
   by_cases hlt:k < xs.length
   · obtain ⟨b,o,rfl,hcc⟩:=HC.out (by omega)
     have hck:=hcc k hlt
     have hx:ok (xs.getD k 0):=HK.out _ (by rw [List.getD_eq_getElem?_getD,List.getElem?_eq_getElem hlt]; exact List.getElem_mem hlt)
     clear hcc
     have HA:=Lib.hid (jel (p:=p) hlt)
     generalize hxe:xs.getD k 0=x at *
     have HXE:=Lib.hid hxe
     clear hxe
     have HX:=Lib.hid hx
     clear hx
     have hcall:=HP.out x q HX.out
     cases hq:p x with
     | true =>
       rw [hq] at hcall
       have HQ:=Lib.hid hq
       clear hq
       have HCALL:=Lib.hid hcall
       clear hcall
       go_wp2_with (go_at_fn g; (refine HCALL.out.mono ?_); rintro e w' ⟨rfl,q',rfl⟩)
       go_ret
       exact ⟨⟨k,rfl,by rw [HA.out HQ.out]; simp⟩,_,rfl⟩
     | false =>
       rw [hq] at hcall
       have HQ:=Lib.hid hq
       clear hq
       have HCALL:=Lib.hid hcall
       clear hcall
       go_wp2_with (go_at_fn g; (refine HCALL.out.mono ?_); rintro e w' ⟨rfl,q',rfl⟩)
       go_roundw
       case rel=>exact ⟨k + 1,by omega,by go_num,jeb HZ.out (by rw [HXE.out]; exact HQ.out),_,rfl⟩
       case measure=>simp [intOf]; omega
   · obtain rfl:k=xs.length:=by omega
     go_wp2_with fail
     go_ret
     exact ⟨⟨-1,rfl,by rw [jmj HZ.out]; rfl⟩,_,rfl⟩
theorem jsbb:Calls Try.prog 127 #[v,.func (.func g) #[] lb] w fun e w'=>e=.returned (.bool (xs.any p))/\∃ q,w'=w.drewN q:=by
 have hcon:=Lib.hid (jnbb g lb ok p w eg hp v xs h hok)
 clear hp h hok
 go_enter Try.func127,Try.ntmps127
 go_wp2_with (go_at_call 184; (refine hcon.out.mono ?_); rintro e w' ⟨⟨r,rfl,hr⟩,q,rfl⟩; have HR:=Lib.hid hr; clear hr)
 go_ret
 exact ⟨jsa HR.out,_,rfl⟩
set_option maxHeartbeats 400000 in
theorem jpbb:Calls Try.prog 163 #[v,.func (.func g) #[] lb] w fun e w'=>jxy (xs.any p) e/\∃ q,w'=w.drewN q:=by
 obtain ⟨A,c,rfl,hc1,hc2,hc⟩:=h.open_
 have HC:=Lib.hid hc
 have HP:=Lib.hid hp
 have HK:=Lib.hid hok
 clear hc hp h hok
 go_enter Try.func163,Try.ntmps163
 go_wp2_with fail
 go_loopw [5,8] (fun _ i wr=>∃ k:Nat,k<=xs.length/\i=.int .i64 k/\(∀ j,j < k->p (xs.getD j 0)=false)/\∃ q,wr=w.drewN q) (fun _ i _=>xs.length - (intOf i).toNat)
 case atStart=>exact ⟨0,Nat.zero_le _,rfl,fun j hj=>absurd hj (by omega),0,rfl⟩
 case round =>
   obtain ⟨k,hk,rfl,hz,q,rfl⟩:=hrel
   have HZ:=Lib.hid hz
   clear hz
   by_cases hlt:k < xs.length
   · obtain ⟨b,o,rfl,hcc⟩:=HC.out (by omega)
     have hck:=hcc k hlt
     have hx:ok (xs.getD k 0):=HK.out _ (by rw [List.getD_eq_getElem?_getD,List.getElem?_eq_getElem hlt]; exact List.getElem_mem hlt)
     clear hcc
     have HA:=Lib.hid (jel (p:=p) hlt)
     generalize hxe:xs.getD k 0=x at *
     have HXE:=Lib.hid hxe
     clear hxe
     have HX:=Lib.hid hx
     clear hx
     have hcall:=HP.out x q HX.out
     cases hq:p x with
     | true =>
       rw [hq] at hcall
       have HQ:=Lib.hid hq
       clear hq
       have HCALL:=Lib.hid hcall
       clear hcall
       go_wp2_with (go_at_fn g; (refine HCALL.out.mono ?_); rintro e w' ⟨rfl,q',rfl⟩)
       go_ret
       exact ⟨⟨k,rfl,by rw [HA.out HQ.out]; simp⟩,_,rfl⟩
     | false =>
       rw [hq] at hcall
       have HQ:=Lib.hid hq
       clear hq
       have HCALL:=Lib.hid hcall
       clear hcall
       go_wp2_with (go_at_fn g; (refine HCALL.out.mono ?_); rintro e w' ⟨rfl,q',rfl⟩)
       go_roundw
       case rel=>exact ⟨k + 1,by omega,by go_num,jeb HZ.out (by rw [HXE.out]; exact HQ.out),_,rfl⟩
       case measure=>simp [intOf]; omega
   · obtain rfl:k=xs.length:=by omega
     go_wp2_with fail
     go_ret
     exact ⟨⟨-1,rfl,by rw [jmj HZ.out]; rfl⟩,_,rfl⟩
theorem jgq:Calls Try.prog 98 #[v,.func (.func g) #[] lb] w fun e w'=>e=.returned (.bool (xs.any p))/\∃ q,w'=w.drewN q:=by
 have hcon:=Lib.hid (jpbb g lb ok p w eg hp v xs h hok)
 clear hp h hok
 go_enter Try.func98,Try.ntmps98
 go_wp2_with (go_at_call 163; (refine hcon.out.mono ?_); rintro e w' ⟨⟨r,rfl,hr⟩,q,rfl⟩; have HR:=Lib.hid hr; clear hr)
 go_ret
 exact ⟨jsa HR.out,_,rfl⟩
end
end Go.Proofs
namespace Go.Proofs
open Go.RowKit Go.Shelf Go.Proofs.Ct
theorem jijb (A:Option Addr) (n c B:Nat) (w:World) (_hn:n<=9223372036854775807) (hc:w.cell? ⟨B,0,none⟩=some (.slice A n c)) :
   jfcb 128 #[.pointer (some ⟨B,0,none⟩)] (fun x => -9223372036854775808<=x/\x<=9223372036854775807) (outB n) w:=fun x q hx=>by
 have hcq:(w.drewN q).cell? ⟨B,0,none⟩=some (.slice A n c):=hc
 show Calls Try.prog 128 #[.int .i64 x,.pointer (some ⟨B,0,none⟩)] (w.drewN q) _
 have h0:outB n x=(decide (x < -1) || decide ((n:Int)<=x)):=rfl
 have H0:=Lib.hid h0
 clear h0
 generalize hW:w.drewN q=W at *
 have HW:=Lib.hid hW
 clear hW
 by_cases h1:x < -1
 · go_enter Try.func128,Try.ntmps128
   go_wp2_with fail
   go_ret
   exact ⟨jsa (by rw [H0.out]; simp [h1]),q,HW.out.symm⟩
 · by_cases h2:(n:Int)<=x
   · go_enter Try.func128,Try.ntmps128
     go_wp2_with fail
     go_ret
     exact ⟨jsa (by rw [H0.out]; simp [h2]),q,HW.out.symm⟩
   · go_enter Try.func128,Try.ntmps128
     go_wp2_with fail
     go_ret
     exact ⟨jsa (by rw [H0.out]; simp [h1,h2]),q,HW.out.symm⟩
theorem eg104:∀ args w,(callFunc 128 args).run Try.prog w=.ok (.enter 128 args) w:=enters_of Try.func128 (by kernel_rfl) rfl
theorem jdm {g:Int} {t:Tb} (hw:wide g t=false) {k:Nat} (hk:k < t.length) (hz:∀ j,j < k->jue g t.length (t.row j)=false) (hb:jue g t.length (t.row k)=true):check g t=(if ((t.row k).length:Int) ≠ 2 * g then 3 else 2,(k:Int)):=by
 unfold check
 rw [hw,jse hk hb hz]
 rfl
theorem jvw {g:Int} {t:Tb} (hw:wide g t=false) (hr:∀ j,j < t.length->jue g t.length (t.row j)=false) {k:Nat} (hk:k < t.length) (hz:∀ j,j < k->jkg t (2 * g).toNat j=false) (hb:jkg t (2 * g).toNat k=true):check g t=(14,(k:Int)):=by
 unfold check
 rw [hw,jce hr,jse hk hb hz]
 rfl
theorem jdk {g:Int} {t:Tb} (hw:wide g t=false) (hr:∀ j,j < t.length->jue g t.length (t.row j)=false) (hz:∀ j,j < t.length->jkg t (2 * g).toNat j=false):check g t=(0,-1):=by
 unfold check
 rw [hw,jce hr,jce hz]
 rfl
theorem jsr {g n:Int} {row:List Int} (h:(row.length:Int) ≠ 2 * g):jue g n row=true:=by
 unfold jue
 rw [Bool.or_eq_true]
 exact .inl (by simpa using h)
theorem jdv {g n:Int} {row:List Int} (h:(row.length:Int)=2 * g):jue g n row=jji n row:=by
 unfold jue
 rw [show decide ((row.length:Int) ≠ 2 * g)=false by simpa using h]
 rfl
theorem jls:∀ c:Nat,c < 40->bits .xor .i64 (c:Int) 1=((flp c:Nat):Int):=by decide +kernel
theorem jmib {c m:Nat} (h:c < 2 * m):flp c < 2 * m:=by
 unfold flp
 split <;> omega
def jbgb (g:Int) (t:Tb) (w:World) (e:Ending) (w' : World):Prop:=e=.returned (.tuple #[.int .i64 (check g t).1,.int .i64 (check g t).2])/\Below w.heap.size w w'
set_option maxRecDepth 100000 in
set_option maxHeartbeats 1000000 in
theorem check43_any (w:World) (v:Value) (g:Int) (t:Tb) (ht:Tab w v t):Calls Try.prog 51 #[.int .i64 g,v] w (jbgb g t w):=by
 obtain ⟨A,c,rfl,hc1,hc2,hc⟩:=ht.open_
 have HC:=Lib.hid hc
 clear hc ht
 have HCK:Hid (check g t=if wide g t then ((2:Int),(-1:Int)) else
   match first (fun r=>jue g t.length (t.row r)) t.length with
   | some r=>(if ((t.row r).length:Int) ≠ 2 * g then 3 else 2,(r:Int))
   | none=>match first (jkg t (2 * g).toNat) t.length with
     | some r=>(14,(r:Int))
     | none=>(0,-1)):=Lib.hid rfl
 by_cases hw:wide g t=true
 · have HCW:Hid (check g t=(2,-1)):=Lib.hid (by rw [HCK.out,if_pos hw])
   have hw' : g < 1\/16 < g\/t.length < 1\/20000 < t.length:=by
     unfold wide at hw
     simp only [Bool.or_eq_true,decide_eq_true_eq] at hw
     omega
   clear hw
   by_cases h1:g < 1
   · go_enter Try.func51,Try.ntmps51
     go_wp2_with fail
     go_ret2
     exact ⟨jqb (by rw [HCW.out]) (by rw [HCW.out]),(Below.refl _ _).alloc (Nat.le_refl _) _⟩
   · by_cases h2:16 < g
     · go_enter Try.func51,Try.ntmps51
       go_wp2_with fail
       go_ret2
       exact ⟨jqb (by rw [HCW.out]) (by rw [HCW.out]),(Below.refl _ _).alloc (Nat.le_refl _) _⟩
     · by_cases h3:t.length < 1
       · have d3:((t.length:Int) < 1):=by omega
         go_enter Try.func51,Try.ntmps51
         go_wp2_with fail
         go_ret2
         exact ⟨jqb (by rw [HCW.out]) (by rw [HCW.out]),(Below.refl _ _).alloc (Nat.le_refl _) _⟩
       · have d3 : ¬ ((t.length:Int) < 1):=by omega
         have d4:(20000 < (t.length:Int)):=by omega
         go_enter Try.func51,Try.ntmps51
         go_wp2_with fail
         go_ret2
         exact ⟨jqb (by rw [HCW.out]) (by rw [HCW.out]),(Below.refl _ _).alloc (Nat.le_refl _) _⟩
 · have hw' : 1<=g/\g<=16/\1<=t.length/\t.length<=20000:=by
     unfold wide at hw
     simp only [Bool.or_eq_true,decide_eq_true_eq] at hw
     omega
   obtain ⟨g1,g2,n1,n2⟩:=hw'
   have HNW:=Lib.hid (Bool.eq_false_iff.2 hw)
   clear hw HCK
   have n3:(1:Int)<=(t.length:Int):=by omega
   have n4:(t.length:Int)<=20000:=by omega
   obtain ⟨b,off,rfl,hcell⟩:=HC.out (by omega)
   have HCELL:=Lib.hid hcell
   clear hcell HC
   go_enter Try.func51,Try.ntmps51
   go_wp2_with fail
   go_loopw [30] (fun i wr=>∃ k:Nat,k<=t.length/\i=.int .i64 k/\(∀ j,j < k->jue g t.length (t.row j)=false)/\wr.cell? ⟨w.heap.size,0,none⟩=some (.slice (some ⟨b,off,none⟩) t.length c)/\Below w.heap.size w wr) (fun i _=>t.length - (intOf i).toNat)
   case atStart=>exact ⟨0,Nat.zero_le _,rfl,fun j hj=>absurd hj (by omega),by simp,(Below.refl _ _).alloc (Nat.le_refl _) _⟩
   case round =>
     obtain ⟨k,hk,rfl,hz,hbox,hbel⟩:=hrel
     have HZ:=Lib.hid hz
     have HB:=Lib.hid hbel
     clear hz hbel
     have hk0:(0:Int)<=(k:Int):=Int.natCast_nonneg _
     by_cases hlt:k < t.length
     · obtain ⟨u,hu,hI⟩:=HCELL.out k hlt
       have hu':=(HB.out.cell (p:=⟨b,off + k,none⟩) (World.block_lt_of_cell? w _ hu)).trans hu
       have hI':=hI.below HB.out
       clear hu hI
       have hI2:jma wr u (t.row k):=hI'
       clear hI'
       obtain ⟨A2,c2,rfl,hd1,hd2,hd⟩:=hI2.open_
       clear hd
       by_cases hlen:((t.row k).length:Int)=2 * g
       · have d1:(((t.row k).length:Int) != 2 * g)=false:=by simpa using hlen
         have HRB:=Lib.hid (jdv (n:=(t.length:Int)) hlen)
         have HP:=Lib.hid (jsbb 128 _ _ _ wr eg104 (jijb _ t.length c w.heap.size wr (by omega) hbox) _ (t.row k) hI2 hI2.2)
         have HC3:Hid (jji t.length (t.row k)=true->check g t=(2,(k:Int))):=Lib.hid fun h=>by
           rw [jdm HNW.out hlt HZ.out (by rw [HRB.out]; exact h),if_neg (by simpa using hlen)]
         clear hI2
         have HL:=Lib.hid hlen
         clear hlen
         have HOB:Hid ((t.row k).any (outB t.length)=jji t.length (t.row k)):=Lib.hid rfl
         rw [HOB.out] at HP
         cases hro:jji t.length (t.row k) with
         | true =>
           rw [hro] at HP
           have HRO:=Lib.hid hro
           clear hro
           have HBOX:=Lib.hid hbox
           clear hbox
           go_wp2_with (go_at_call 127; (refine HP.out.mono ?_); rintro e w' ⟨rfl,q,rfl⟩)
           go_ret2
           exact ⟨jqb (by rw [HC3.out HRO.out]) (by rw [HC3.out HRO.out]),below_drewN HB.out q⟩
         | false =>
           rw [hro] at HP
           have HRO:=Lib.hid hro
           clear hro
           go_wp2_with (go_at_call 127; (refine HP.out.mono ?_); rintro e w' ⟨rfl,q,rfl⟩)
           go_roundw
           case rel=>exact ⟨k + 1,by omega,by go_num,jeb HZ.out (by rw [HRB.out]; exact HRO.out),hbox,below_drewN HB.out q⟩
           case measure=>simp [intOf]; omega
       · have d1:(((t.row k).length:Int) != 2 * g)=true:=by simpa using hlen
         have HC2:Hid (check g t=(3,(k:Int))):=Lib.hid (by rw [jdm HNW.out hlt HZ.out (jsr hlen),if_pos hlen])
         have HL:=Lib.hid hlen
         clear hlen
         go_wp2_with fail
         go_ret2
         exact ⟨jqb (by rw [HC2.out]) (by rw [HC2.out]),HB.out⟩
     · obtain rfl:k=t.length:=by omega
       have HR:=HZ
       have HLEN:Hid (∀ r,r < t.length->((t.row r).length:Int)=2 * g/\∀ c,c < (t.row r).length -> -1<=t.at r c/\t.at r c < t.length):=Lib.hid fun r hr=>by
         have h1:=HR.out r hr
         unfold jue at h1
         rw [Bool.or_eq_false_iff] at h1
         exact ⟨by simpa using h1.1,jyg h1.2⟩
       clear HZ
       go_wp2_with fail
       go_loopw [48] (fun i wr=>∃ k:Nat,k<=t.length/\i=.int .i64 k/\(∀ j,j < k->jkg t (2 * g).toNat j=false)/\wr.cell? ⟨w.heap.size,0,none⟩=some (.slice (some ⟨b,off,none⟩) t.length c)/\Below w.heap.size w wr) (fun i _=>t.length - (intOf i).toNat)
       case atStart=>exact ⟨0,Nat.zero_le _,rfl,fun j hj=>absurd hj (by omega),hbox,HB.out⟩
       case round =>
         clear HB hbox
         rename World=>w0
         obtain ⟨k,hk,rfl,hz,hbox,hbel⟩:=hrel
         have HZ:=Lib.hid hz
         have HB:=Lib.hid hbel
         clear hz hbel
         have hk0:(0:Int)<=(k:Int):=Int.natCast_nonneg _
         by_cases hlt:k < t.length
         · obtain ⟨u,hu,hI⟩:=HCELL.out k hlt
           have hu':=(HB.out.cell (p:=⟨b,off + k,none⟩) (World.block_lt_of_cell? w _ hu)).trans hu
           clear hu
           have hI2:jma w u (t.row k):=hI
           clear hI
           obtain ⟨A2,c2,rfl,hd1,hd2,hd⟩:=hI2.open_
           have hl2:=(HLEN.out k hlt).1
           have HD:=Lib.hid hd
           clear hd
           obtain ⟨b2,o2,rfl,hd'⟩:=HD.out (by omega)
           have HD2:=Lib.hid hd'
           clear hd' HD hI2
           have HL2:=Lib.hid hl2
           have hl3:((t.row k).length:Int)<=32:=by omega
           clear hl2
           go_wp2_with fail
           go_loopw [55] (fun i wr=>∃ c0:Nat,c0<=(t.row k).length/\i=.int .i64 c0/\(∀ j,j < c0->jqi t k j=false)/\wr.cell? ⟨w.heap.size,0,none⟩=some (.slice (some ⟨b,off,none⟩) t.length c)/\Below w.heap.size w wr) (fun i _=>(t.row k).length - (intOf i).toNat)
           case atStart=>exact ⟨0,Nat.zero_le _,rfl,fun j hj=>absurd hj (by omega),hbox,HB.out⟩
           case round =>
             clear HB hbox hu'
             rename World=>w1
             obtain ⟨j,hj,rfl,hzj,hbox,hbel⟩:=hrel
             have HZJ:=Lib.hid hzj
             have HB:=Lib.hid hbel
             clear hzj hbel
             have hj0:(0:Int)<=(j:Int):=Int.natCast_nonneg _
             by_cases hjl:j < (t.row k).length
             · have hx:=HD2.out j hjl
               have hx':=(HB.out.cell (p:=⟨b2,o2 + j,none⟩) (World.block_lt_of_cell? w _ hx)).trans hx
               clear hx
               have hbd:=(HLEN.out k hlt).2 j hjl
               have HSA:Hid (jqi t k j=(decide (0<=t.at k j) && decide (t.at (t.at k j).toNat (flp j) ≠ (k:Int)))):=Lib.hid rfl
               have hat:(t.row k).getD j 0=t.at k j:=rfl
               rw [hat] at hx'
               clear hat
               generalize t.at k j=s at *
               by_cases hs:s < 0
               · have HS:Hid (jqi t k j=false):=Lib.hid (by rw [HSA.out]; simp; omega)
                 go_wp2_with fail
                 go_roundw
                 case rel=>exact ⟨j + 1,by omega,by go_num,jeb HZJ.out HS.out,hbox,HB.out⟩
                 case measure=>simp [intOf]; omega
               · obtain ⟨s',rfl⟩:=Int.eq_ofNat_of_zero_le (by omega:0<=s)
                 have hs' : s' < t.length:=by omega
                 obtain ⟨u3,hu3,hI3⟩:=HCELL.out s' hs'
                 have hu3':=(HB.out.cell (p:=⟨b,off + s',none⟩) (World.block_lt_of_cell? w _ hu3)).trans hu3
                 clear hu3
                 have hI4:jma w u3 (t.row s'):=hI3
                 clear hI3
                 obtain ⟨A3,c3,rfl,he1,he2,he⟩:=hI4.open_
                 have hl4:=(HLEN.out s' hs').1
                 have HE:=Lib.hid he
                 clear he
                 obtain ⟨b3,o3,rfl,he'⟩:=HE.out (by omega)
                 have hfl:flp j < (t.row s').length:=by
                   have:=jmib (c:=j) (m:=g.toNat) (by have:=HL2.out; omega)
                   omega
                 have hy:=he' (flp j) hfl
                 have hy':=(HB.out.cell (p:=⟨b3,o3 + flp j,none⟩) (World.block_lt_of_cell? w _ hy)).trans hy
                 have hfe:=jls j (by omega)
                 have hf0:(0:Int)<=((flp j:Nat):Int):=Int.natCast_nonneg _
                 have hf1:((flp j:Nat):Int) < ((t.row s').length:Int):=by omega
                 clear hy he' HE hI4
                 have hat2:(t.row s').getD (flp j) 0=t.at s' (flp j):=rfl
                 rw [hat2] at hy'
                 have HS2:Hid (jqi t k j=decide (t.at s' (flp j) ≠ (k:Int))):=Lib.hid (by rw [HSA.out]; simp)
                 clear hat2
                 generalize t.at s' (flp j)=x at *
                 have hs0:(0:Int)<=(s' : Int):=Int.natCast_nonneg _
                 have hs1:(s' : Int) < (t.length:Int):=by omega
                 have HL4:=Lib.hid hl4
                 clear hl4
                 by_cases hxk:x=(k:Int)
                 · have d5:(x != (k:Int))=false:=by simpa using hxk
                   have HXK:Hid (jqi t k j=false):=Lib.hid (by rw [HS2.out]; simpa using hxk)
                   clear hxk
                   go_wp2_with fail
                   go_roundw
                   case rel=>exact ⟨j + 1,by omega,by go_num,jeb HZJ.out HXK.out,hbox,HB.out⟩
                   case measure=>simp [intOf]; omega
                 · have d5:(x != (k:Int))=true:=by simpa using hxk
                   have HXK:Hid (jqi t k j=true):=Lib.hid (by rw [HS2.out]; simpa using hxk)
                   have HC4:Hid (check g t=(14,(k:Int))):=Lib.hid (jvw HNW.out HR.out hlt HZ.out (jxo (by have:=HL2.out; omega) HXK.out))
                   clear hxk
                   go_wp2_with fail
                   go_ret2
                   exact ⟨jqb (by rw [HC4.out]) (by rw [HC4.out]),HB.out⟩
             · obtain rfl:j=(t.row k).length:=by omega
               go_wp2_with fail
               go_roundw
               case rel=>exact ⟨k + 1,by omega,by go_num,jeb HZ.out (jfn fun c0 hc0=>HZJ.out c0 (by have:=HL2.out; omega)),hbox,HB.out⟩
               case measure=>simp [intOf]; omega
         · obtain rfl:k=t.length:=by omega
           go_wp2_with fail
           go_ret2
           exact ⟨jqb (by rw [jdk HNW.out HR.out HZ.out]) (by rw [jdk HNW.out HR.out HZ.out]),HB.out⟩
end Go.Proofs
namespace Go.Proofs
open Go.RowKit Go.Shelf Go.Proofs.Ct
def jhcb (g:Int) (t:Tb) (w:World) (e:Ending) (w' : World):Prop:=e=.returned (.tuple #[.int .i64 (check g t).1,.int .i64 (check g t).2])/\∃ q,w'=w.drewN q
set_option maxRecDepth 100000 in
set_option maxHeartbeats 2000000 in
theorem check44_any (w:World) (v:Value) (g:Int) (t:Tb) (ht:Tab w v t):Calls Try.prog 52 #[.int .i64 g,v] w (jhcb g t w):=by
 obtain ⟨A,c,rfl,hc1,hc2,hc⟩:=ht.open_
 have HC:=Lib.hid hc
 clear hc ht
 by_cases hw:wide g t=true
 · have HCW:Hid (check g t=(2,-1)):=Lib.hid (by unfold check; rw [if_pos hw])
   have hw' : g < 1\/16 < g\/t.length < 1\/20000 < t.length:=by
     unfold wide at hw
     simp only [Bool.or_eq_true,decide_eq_true_eq] at hw
     omega
   clear hw
   by_cases h1:g < 1
   · go_enter Try.func52,Try.ntmps52
     go_wp2_with fail
     go_ret2
     exact ⟨jqb (by rw [HCW.out]) (by rw [HCW.out]),0,rfl⟩
   · by_cases h2:16 < g
     · go_enter Try.func52,Try.ntmps52
       go_wp2_with fail
       go_ret2
       exact ⟨jqb (by rw [HCW.out]) (by rw [HCW.out]),0,rfl⟩
     · by_cases h3:t.length < 1
       · have d3:((t.length:Int) < 1):=by omega
         go_enter Try.func52,Try.ntmps52
         go_wp2_with fail
         go_ret2
         exact ⟨jqb (by rw [HCW.out]) (by rw [HCW.out]),0,rfl⟩
       · have d3 : ¬ ((t.length:Int) < 1):=by omega
         have d4:(20000 < (t.length:Int)):=by omega
         go_enter Try.func52,Try.ntmps52
         go_wp2_with fail
         go_ret2
         exact ⟨jqb (by rw [HCW.out]) (by rw [HCW.out]),0,rfl⟩
 · have hw' : 1<=g/\g<=16/\1<=t.length/\t.length<=20000:=by
     unfold wide at hw
     simp only [Bool.or_eq_true,decide_eq_true_eq] at hw
     omega
   obtain ⟨g1,g2,n1,n2⟩:=hw'
   have HNW:=Lib.hid (Bool.eq_false_iff.2 hw)
   clear hw
   have n3:(1:Int)<=(t.length:Int):=by omega
   have n4:(t.length:Int)<=20000:=by omega
   obtain ⟨b,off,rfl,hcell⟩:=HC.out (by omega)
   have HCELL:=Lib.hid hcell
   clear hcell HC
   go_enter Try.func52,Try.ntmps52
   go_wp2_with fail
   go_loopw [6] (fun i wr=>∃ k:Nat,k<=t.length/\i=.int .i64 k/\(∀ j,j < k->jue g t.length (t.row j)=false)/\∃ q,wr=w.drewN q) (fun i _=>t.length - (intOf i).toNat)
   case atStart=>exact ⟨0,Nat.zero_le _,rfl,fun j hj=>absurd hj (by omega),0,rfl⟩
   case round =>
     obtain ⟨k,hk,rfl,hz,q,rfl⟩:=hrel
     have HZ:=Lib.hid hz
     clear hz
     have hk0:(0:Int)<=(k:Int):=Int.natCast_nonneg _
     by_cases hlt:k < t.length
     · have hlt' : (k:Int) < (t.length:Int):=by omega
       obtain ⟨u,hu,hI⟩:=HCELL.out k hlt
       have hI2:jma w u (t.row k):=hI
       clear hI
       obtain ⟨A2,c2,rfl,hd1,hd2,hd⟩:=hI2.open_
       by_cases hlen:((t.row k).length:Int)=2 * g
       · have d1 : (((t.row k).length:Int) != 2 * g)=false:=by simpa using hlen
         have HRB:=Lib.hid (jdv (n:=(t.length:Int)) hlen)
         have HC3:Hid (jji t.length (t.row k)=true->check g t=(2,(k:Int))):=Lib.hid fun h=>by
           rw [jdm HNW.out hlt HZ.out (by rw [HRB.out]; exact h),if_neg (by simpa using hlen)]
         obtain ⟨b2,o2,rfl,hd'⟩:=hd (by omega)
         have HD:=Lib.hid hd'
         have HF:=Lib.hid hI2.2
         clear hd' hd hI2
         have HL:=Lib.hid hlen
         clear hlen
         go_wp2_with fail
         go_loopw [7] (fun i wr=>∃ j:Nat,j<=(t.row k).length/\i=.int .i64 j/\(∀ i,i < j -> -1<=(t.row k).getD i 0/\(t.row k).getD i 0 < t.length)/\∃ q,wr=w.drewN q) (fun i _=>(t.row k).length - (intOf i).toNat)
         case atStart=>exact ⟨0,Nat.zero_le _,rfl,fun j hj=>absurd hj (by omega),q,rfl⟩
         case round =>
           obtain ⟨j,hj,rfl,hzj,qj,rfl⟩:=hrel
           have HZJ:=Lib.hid hzj
           clear hzj
           have hj0:(0:Int)<=(j:Int):=Int.natCast_nonneg _
           by_cases hjl:j < (t.row k).length
           · have hx:=HD.out j hjl
             have hjl' : (j:Int) < ((t.row k).length:Int):=by omega
             have HT:Hid ((t.row k).getD j 0 < -1\/(t.length:Int)<=(t.row k).getD j 0->check g t=(2,(k:Int))):=Lib.hid fun h=>HC3.out (jrx hjl h)
             have HG:Hid (-1<=(t.row k).getD j 0/\(t.row k).getD j 0 < t.length->∀ i,i < j + 1 -> -1<=(t.row k).getD i 0/\(t.row k).getD i 0 < t.length):=Lib.hid fun h=>jeb HZJ.out h
             have hI : -9223372036854775808<=(t.row k).getD j 0/\(t.row k).getD j 0<=9223372036854775807:=Fits.at_ HF.out j
             generalize (t.row k).getD j 0=s at *
             obtain ⟨hI1,hI3⟩:=hI
             by_cases h1:s < -1
             · have HZ1:=Lib.hid (HT.out (.inl h1))
               go_wp2_with fail
               go_ret2
               exact ⟨jqb (by rw [HZ1.out]) (by rw [HZ1.out]),_,rfl⟩
             · by_cases h2:(t.length:Int)<=s
               · have HZ1:=Lib.hid (HT.out (.inr h2))
                 go_wp2_with fail
                 go_ret2
                 exact ⟨jqb (by rw [HZ1.out]) (by rw [HZ1.out]),_,rfl⟩
               · go_wp2_with fail
                 go_roundw
                 case rel=>exact ⟨j + 1,by omega,by go_num,HG.out ⟨by omega,by omega⟩,_,rfl⟩
                 case measure=>simp [intOf]; omega
           · obtain rfl:j=(t.row k).length:=by omega
             go_wp2_with fail
             go_roundw
             case rel=>exact ⟨k + 1,by omega,by go_num,jeb HZ.out (by rw [HRB.out]; exact jil HZJ.out),_,rfl⟩
             case measure=>simp [intOf]; omega
       · have d1:(((t.row k).length:Int) != 2 * g)=true:=by simpa using hlen
         have HC2:Hid (check g t=(3,(k:Int))):=Lib.hid (by rw [jdm HNW.out hlt HZ.out (jsr hlen),if_pos hlen])
         have HL:=Lib.hid hlen
         clear hlen hd hI2
         go_wp2_with fail
         go_ret2
         exact ⟨jqb (by rw [HC2.out]) (by rw [HC2.out]),_,rfl⟩
     · obtain rfl:k=t.length:=by omega
       have HR:=HZ
       have HLEN:Hid (∀ r,r < t.length->((t.row r).length:Int)=2 * g/\∀ c,c < (t.row r).length -> -1<=t.at r c/\t.at r c < t.length):=Lib.hid fun r hr=>by
         have h1:=HR.out r hr
         unfold jue at h1
         rw [Bool.or_eq_false_iff] at h1
         exact ⟨by simpa using h1.1,jyg h1.2⟩
       clear HZ
       go_wp2_with fail
       go_loopw [8] (fun i wr=>∃ k:Nat,k<=t.length/\i=.int .i64 k/\(∀ j,j < k->jkg t (2 * g).toNat j=false)/\∃ q,wr=w.drewN q) (fun i _=>t.length - (intOf i).toNat)
       case atStart=>exact ⟨0,Nat.zero_le _,rfl,fun j hj=>absurd hj (by omega),q,rfl⟩
       case round =>
         clear q
         obtain ⟨k,hk,rfl,hz,q,rfl⟩:=hrel
         have HZ:=Lib.hid hz
         clear hz
         have hk0:(0:Int)<=(k:Int):=Int.natCast_nonneg _
         by_cases hlt:k < t.length
         · have hlt' : (k:Int) < (t.length:Int):=by omega
           obtain ⟨u,hu,hI⟩:=HCELL.out k hlt
           have hI2:jma w u (t.row k):=hI
           clear hI
           obtain ⟨A2,c2,rfl,hd1,hd2,hd⟩:=hI2.open_
           have hl2:=(HLEN.out k hlt).1
           obtain ⟨b2,o2,rfl,hd'⟩:=hd (by omega)
           have HD2:=Lib.hid hd'
           clear hd' hd hI2
           have HL2:=Lib.hid hl2
           clear hl2
           go_wp2_with fail
           go_loopw [9] (fun i wr=>∃ c0:Nat,(c0:Int)<=2 * g/\i=.int .i64 c0/\(∀ j,j < c0->jqi t k j=false)/\∃ q,wr=w.drewN q) (fun i _=>(2 * g).toNat - (intOf i).toNat)
           case atStart=>exact ⟨0,by omega,rfl,fun j hj=>absurd hj (by omega),q,rfl⟩
           case round =>
             obtain ⟨j,hj,rfl,hzj,qj,rfl⟩:=hrel
             have HZJ:=Lib.hid hzj
             clear hzj
             have hj0:(0:Int)<=(j:Int):=Int.natCast_nonneg _
             by_cases hjl:(j:Int) < 2 * g
             · have hjl2:j < (t.row k).length:=by have:=HL2.out; omega
               have hjl3:(j:Int) < ((t.row k).length:Int):=by omega
               have hx:=HD2.out j hjl2
               have hbd:=(HLEN.out k hlt).2 j hjl2
               have HSA:Hid (jqi t k j=(decide (0<=t.at k j) && decide (t.at (t.at k j).toNat (flp j) ≠ (k:Int)))):=Lib.hid rfl
               have hat:(t.row k).getD j 0=t.at k j:=rfl
               rw [hat] at hx
               clear hat
               generalize t.at k j=s at *
               by_cases hs:s < 0
               · have HS:Hid (jqi t k j=false):=Lib.hid (by rw [HSA.out]; simp; omega)
                 go_wp2_with fail
                 go_roundw
                 case rel=>exact ⟨j + 1,by omega,by go_num,jeb HZJ.out HS.out,_,rfl⟩
                 case measure=>simp [intOf]; omega
               · obtain ⟨s',rfl⟩:=Int.eq_ofNat_of_zero_le (by omega:0<=s)
                 have hs' : s' < t.length:=by omega
                 obtain ⟨u3,hu3,hI3⟩:=HCELL.out s' hs'
                 have hI4:jma w u3 (t.row s'):=hI3
                 clear hI3
                 obtain ⟨A3,c3,rfl,he1,he2,he⟩:=hI4.open_
                 have hl4:=(HLEN.out s' hs').1
                 obtain ⟨b3,o3,rfl,he'⟩:=he (by omega)
                 have hfl:flp j < (t.row s').length:=by
                   have:=jmib (c:=j) (m:=g.toNat) (by omega)
                   omega
                 have hy:=he' (flp j) hfl
                 have hfe:=jls j (by omega)
                 have hf0:(0:Int)<=((flp j:Nat):Int):=Int.natCast_nonneg _
                 have hf1:((flp j:Nat):Int) < ((t.row s').length:Int):=by omega
                 clear he' he hI4
                 have hat2:(t.row s').getD (flp j) 0=t.at s' (flp j):=rfl
                 rw [hat2] at hy
                 have HS2:Hid (jqi t k j=decide (t.at s' (flp j) ≠ (k:Int))):=Lib.hid (by rw [HSA.out]; simp)
                 clear hat2
                 generalize t.at s' (flp j)=x at *
                 have hs0:(0:Int)<=(s' : Int):=Int.natCast_nonneg _
                 have hs1:(s' : Int) < (t.length:Int):=by omega
                 have HL4:=Lib.hid hl4
                 clear hl4
                 by_cases hxk:x=(k:Int)
                 · have d5:(x != (k:Int))=false:=by simpa using hxk
                   have HXK:Hid (jqi t k j=false):=Lib.hid (by rw [HS2.out]; simpa using hxk)
                   clear hxk
                   go_wp2_with fail
                   go_roundw
                   case rel=>exact ⟨j + 1,by omega,by go_num,jeb HZJ.out HXK.out,_,rfl⟩
                   case measure=>simp [intOf]; omega
                 · have d5:(x != (k:Int))=true:=by simpa using hxk
                   have HXK:Hid (jqi t k j=true):=Lib.hid (by rw [HS2.out]; simpa using hxk)
                   have HC4:Hid (check g t=(14,(k:Int))):=Lib.hid (jvw HNW.out HR.out hlt HZ.out (jxo (by omega) HXK.out))
                   clear hxk
                   go_wp2_with fail
                   go_ret2
                   exact ⟨jqb (by rw [HC4.out]) (by rw [HC4.out]),_,rfl⟩
             · have hjm:(2 * g).toNat=j:=by omega
               have HJM:=Lib.hid hjm
               clear hjm
               go_wp2_with fail
               go_roundw
               case rel=>exact ⟨k + 1,by omega,by go_num,jeb HZ.out (jfn fun c0 hc0=>HZJ.out c0 (by have:=HJM.out; omega)),_,rfl⟩
               case measure=>simp [intOf]; omega
         · obtain rfl:k=t.length:=by omega
           go_wp2_with fail
           go_ret2
           exact ⟨jqb (by rw [jdk HNW.out HR.out HZ.out]) (by rw [jdk HNW.out HR.out HZ.out]),_,rfl⟩
end Go.Proofs
