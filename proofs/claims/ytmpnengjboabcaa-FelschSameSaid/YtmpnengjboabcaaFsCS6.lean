/- word.Invert, slices.Concat, word.Mul; The system of a table in memory: its map of numbers and its list of pairs; coset.Reps and cayleyref18.Reps; rewrite.of; rewrite.of at a standard table; rewrite.Count; The iterator of (table).walk; A range over a function whose body never leaves the loop; the iterator may write one box of its own; A region that draws its order, by an invariant on its slots: each operation is shown once, whatever order the region is run in. Fenced walk; (system).rewrite; rewrite.Rewrite; Presentations: which are valid, plainly; the letters of a word; pres.Check; The references' checks of a presentation; Columns of letters; where a word leads; fine; Complete; slices.ContainsFunc at lists of lists; coset.Complete. -/
import Derived.Test.YtmpnengjboabcaaFsCS5
import Derived.Test.YtmpnengjboabcaaFsCS1
import Derived.DeepKeys4
import Derived.MapViews
import Derived.WideKeyArgs
import Derived.Deep.MidRow
import Derived.Deep.RegionHeld3
import Derived.RangeFuncNested
import Derived.RangeFuncCalls
import Derived.OwnWalkIn
import Derived.TacticsInMore
import Derived.LoopNIn
import Derived.LoopIn
import Derived.RangeFuncFrom
import Derived.OrdersIn
import Derived.TacticsIn
import Derived.Deep.RegionHeld
import Derived.RangeFuncLeaves
namespace Go.Proofs
open Go.RowKit Go.Shelf Go.Proofs.Ct
theorem jyn (w:World) (n:Nat) (h0:0 < n) (hn:n<=1000000) :
   (Builtin.append_ #[25,3] 25 #[.slice none 0 0,.int .i64 (n:Int)]).run Try.prog w =
     .ok (.slice (some ⟨w.heap.size,0,none⟩) n (grownCap w n 0 3)) (w.drew.alloc (.cells (Builtin.zeroCells #[.int .i64 0] n ++ Builtin.zeroCells #[.int .i64 0] (grownCap w n 0 3 - n)) 3)):=by
 obtain ⟨i,hi,hz,hs,hby⟩:=jvl
 have hwr:IntKind.i64.wrap (n:Int)=n:=IntWalk.i64_in _ (by omega)
 have hn0:n ≠ 0:=by omega
 have h48 : ¬ (281474976710656 < Builtin.nextslicecap n 0 * i.bytes):=by rw [nextslicecap_zero h0,hby]; omega
 have h48' : ¬ ((281474976710656:Int) < (n:Int) * (i.bytes:Int)):=by rw [hby]; omega
 have h63' : ¬ (9223372036854775807 < (n:Int)):=by omega
 have hneg : ¬ ((n:Int) < 0):=by omega
 simp [Builtin.append_,run_underlying Try.underlying25,run_underlying Try.underlying3,sizeOf,typeInfo,zeroValue,hi,hz,hs,asInt,asIntOf,hwr,hneg,h48',hn0,h48,h63',Question.forced,run_firstCells_none,newRow,grownCap,Value.cells]
theorem jvkb {o:Oper} {a:Act} {w w' : World} (s x:Operand) (t u:TypeId) {sv xv v' : Value} (ho:o.op=.call { callee:=.builtin .append,args := #[s,x],argTypes := #[t,u] }) (hs:a.eval s=sv) (hx:a.eval x=xv)
   (hr:(Builtin.append_ #[t,u] o.type #[sv,xv]).run Try.prog w=.ok v' w'):(execOp a.eval o).run Try.prog w=.ok (.value v') w':=by
 unfold execOp
 simp only [ho,resolve,invoke,builtin,Sem.run_bind,Sem.run_pure,Result.andThen_ok,List.map_toArray,List.map_cons,List.map_nil,hs,hx,hr]
def jdib (w:World) (e:Ending) (w' : World):Prop:=∃ A c,e=.returned (.slice A 0 c)/\OwnI w.heap.size w' (.slice A 0 c) []/\Below w.heap.size w w'
set_option maxRecDepth 100000 in
theorem jfy (w:World) (n:Nat) (hn:n<=1000000):Calls Try.prog 181 #[.slice none 0 0,.int .i64 (n:Int)] w (jdib w):=by
 have hn0:(0:Int)<=(n:Int):=Int.natCast_nonneg _
 have hn1:(n:Int)<=1000000:=by omega
 by_cases h0:n=0
 · subst h0
   go_enter Try.func181,Try.ntmps181
   go_wp2_with fail
   go_ret
   exact ⟨none,0,rfl,World.ownsRow_nil _ _ _ _,Below.refl _ _⟩
 · have hpos:(0:Int) < (n:Int):=by omega
   have hr:=jyn w n (by omega) hn
   have hcm:=grownCap_le_maxLen w n 0 3 (by unfold maxLen; omega)
   have hcg:=grownCap_ge w n 0 3
   have hsz:(Builtin.zeroCells #[Value.int .i64 0] n ++ Builtin.zeroCells #[Value.int .i64 0] (grownCap w n 0 3 - n)).size=grownCap w n 0 3:=by
     simp [size_zeroCells]; omega
   have hnew:=heap_alloc_new w.drew (.cells (Builtin.zeroCells #[Value.int .i64 0] n ++ Builtin.zeroCells #[Value.int .i64 0] (grownCap w n 0 3 - n)) 3)
   have hbel:Below w.heap.size w (w.drew.alloc (.cells (Builtin.zeroCells #[Value.int .i64 0] n ++ Builtin.zeroCells #[Value.int .i64 0] (grownCap w n 0 3 - n)) 3)):=(below_drewN (Below.refl w.heap.size w) 1).alloc (Nat.le_refl _) _
   generalize Builtin.zeroCells #[Value.int .i64 0] n ++ Builtin.zeroCells #[Value.int .i64 0] (grownCap w n 0 3 - n)=C at *
   generalize grownCap w n 0 3=cap at *
   have hown:OwnI w.heap.size (w.drew.alloc (.cells C 3)) (.slice (some ⟨w.heap.size,0,none⟩) 0 cap) []:=⟨rfl,.inr ⟨w.heap.size,cap,C,rfl,Nat.le_refl _,hnew,Nat.zero_le _,hcm,by omega,by simp [ints]⟩⟩
   generalize w.drew.alloc (.cells C 3)=W at *
   have hcm' : cap<=9223372036854775807:=by unfold maxLen at hcm; exact hcm
   have hcg' : (n:Int)<=(cap:Int):=by omega
   have HR:=Lib.hid hr
   have HO:=Lib.hid hown
   have HB:=Lib.hid hbel
   clear hr hown hbel hnew hsz hcm
   go_enter Try.func181,Try.ntmps181
   go_wp2_with ((with_reducible refine jea 22 ?_); refine jca rfl (jvkb (.tmp 20) (.tmp 21) 25 3 rfl rfl rfl HR.out) ?_)
   go_ret
   exact ⟨_,cap,rfl,HO.out,HB.out⟩
def jki (xs:List (List Int)) (k:Nat):List Int:=jkb (fun k l=>l ++ xs.getD k []) k []
def sumTo (xs:List (List Int)) (k:Nat):Nat:=jkb (fun k l=>l + (xs.getD k []).length) k 0
theorem jbi (xs:List (List Int)):∀ k,(jki xs k).length=sumTo xs k
 | 0=>rfl
 | k + 1=>by
   show (jki xs k ++ xs.getD k []).length=sumTo xs k + (xs.getD k []).length
   rw [List.length_append,jbi xs k]
theorem jor (xs:List (List Int)) {k m:Nat} (h:k<=m):sumTo xs k<=sumTo xs m:=by
 obtain ⟨d,rfl⟩:=Nat.exists_eq_add_of_le h
 clear h
 induction d with
 | zero=>exact Nat.le_refl _
 | succ d ih=>exact Nat.le_trans ih (Nat.le_add_right _ _)
def jgkb (x:List Int) (w:World) (e:Ending) (w' : World):Prop:=∃ A c,e=.returned (.slice A x.length c)/\OwnI w.heap.size w' (.slice A x.length c) x/\Below w.heap.size w w'
set_option maxRecDepth 100000 in
set_option maxHeartbeats 1000000 in
theorem jhu (w:World) (v:Value) (xs:List (List Int)) (h:Tab w v xs) (hl:sumTo xs xs.length<=1000000):Calls Try.prog 124 #[v] w (jgkb (jki xs xs.length) w):=by
 obtain ⟨A0,c0,rfl,hc1,hc2,hc⟩:=h.open_
 have HC:=Lib.hid hc
 clear hc h
 have hx0:(0:Int)<=(xs.length:Int):=Int.natCast_nonneg _
 go_enter Try.func124,Try.ntmps124
 go_wp2_with fail
 go_loop [3,11] (fun so i=>∃ k n:Nat,i=.int .i64 k/\k<=xs.length/\so=.int .i64 n/\Hid (n=sumTo xs k)) (fun _ i=>xs.length - (intOf i).toNat)
 case atStart=>exact ⟨0,0,rfl,by omega,rfl,Lib.hid rfl⟩
 case round =>
   obtain ⟨k,n,rfl,hk,rfl,HN⟩:=hrel
   have hk0:(0:Int)<=(k:Int):=Int.natCast_nonneg _
   have hn0:(0:Int)<=(n:Int):=Int.natCast_nonneg _
   by_cases hlt:k < xs.length
   · have hlt' : (k:Int) < (xs.length:Int):=by omega
     obtain ⟨b,o,rfl,hcc⟩:=HC.out (by omega)
     obtain ⟨u,hu,hI⟩:=hcc k hlt
     obtain ⟨A5,c5,rfl,h1,h2,h3⟩:=hI.open_
     have hst:sumTo xs (k + 1)=sumTo xs k + (xs.getD k []).length:=rfl
     have hmo:=jor xs (k:=k + 1) (m:=xs.length) (by omega)
     have hb:(n:Int) + ((xs.getD k []).length:Int)<=1000000:=by have:=HN.out; omega
     have HN2:Hid (n + (xs.getD k []).length=sumTo xs (k + 1)):=Lib.hid (by rw [hst,HN.out])
     clear hcc hI h3 hst hmo
     generalize (xs.getD k []).length=q at *
     have hq0:(0:Int)<=(q:Int):=Int.natCast_nonneg _
     go_wp2_with fail
     go_round
     case rel=>exact ⟨k + 1,n + q,by go_num,by omega,by go_num,HN2⟩
     case measure=>simp [intOf]; omega
   · obtain rfl:k=xs.length:=by omega
     have HG:=Lib.hid (jfy w n (by have:=HN.out; omega))
     go_wp2_with (go_at_call 181; (refine HG.out.mono ?_); rintro e w1 ⟨A1,c1,rfl,ho,hb⟩; have HO:=Lib.hid ho; have HB:=Lib.hid hb; clear ho hb)
     go_loopw [6,27] (fun so i wr=>∃ k n:Nat,i=.int .i64 k/\k<=xs.length/\Hid (n=(jki xs k).length)/\∃ A c,so=.slice A n c/\Hid (OwnI w.heap.size wr so (jki xs k)/\Below w.heap.size w wr)) (fun _ i _=>xs.length - (intOf i).toNat)
     case atStart=>exact ⟨0,0,rfl,by omega,Lib.hid rfl,_,_,rfl,Lib.hid ⟨HO.out,HB.out⟩⟩
     case round =>
       clear HO HB HG HN hn0 hk0
       obtain ⟨k,n,rfl,hk,HN,A,c,rfl,HS⟩:=hrel
       have hk0:(0:Int)<=(k:Int):=Int.natCast_nonneg _
       by_cases hlt:k < xs.length
       · have hlt' : (k:Int) < (xs.length:Int):=by omega
         obtain ⟨b,o,rfl,hcc⟩:=HC.out (by omega)
         obtain ⟨u,hu,hI⟩:=hcc k hlt
         have hu':=(HS.out.2.cell (p:=⟨b,o + k,none⟩) (World.block_lt_of_cell? w _ hu)).trans hu
         have hmo:=jor xs (k:=k + 1) (m:=xs.length) (by omega)
         have hst:sumTo xs (k + 1)=sumTo xs k + (xs.getD k []).length:=rfl
         have hfl:=jbi xs k
         obtain ⟨A',c',w',hr,ho,hg,-⟩:=jxi 25 25 Try.underlying25 wr w.heap.size (.slice A n c) u (jki xs k) (xs.getD k []) HS.out.1 (hI.below HS.out.2) (by omega) (by omega) HS.out.2.size
         have hs2:jki xs k ++ xs.getD k []=jki xs (k + 1):=rfl
         rw [hs2] at hr ho
         have HR:=Lib.hid hr
         have HS2:Hid (OwnI w.heap.size w' (.slice A' (jki xs (k + 1)).length c') (jki xs (k + 1))/\Below w.heap.size w w'):=Lib.hid ⟨ho,HS.out.2.grown hg HS.out.2.size (fun r hr=>(jga HS.out.1 r hr).1)⟩
         clear hcc hu hI hmo hst hfl hr ho hg hs2
         go_wp2_with ((with_reducible refine jea 33 ?_); refine jca rfl (jnf (.tmp 31) (.tmp 32) 25 rfl rfl rfl HR.out) ?_)
         go_roundw
         case rel=>exact ⟨k + 1,_,by go_num,by omega,Lib.hid rfl,_,_,rfl,HS2⟩
         case measure=>simp [intOf]; omega
       · obtain rfl:k=xs.length:=by omega
         go_wp2_with fail
         go_ret
         exact ⟨A,c,by rw [<- HN.out]; rfl,by rw [<- HN.out]; exact HS.out.1,HS.out.2⟩
end Go.Proofs
namespace Go.Proofs
open Go.RowKit Go.Shelf Go.Proofs.Ct Go.Maps
def pkey (r g:Nat):Value:=.agg #[.int .i64 (r:Int),.int .i64 ((g + 1:Nat):Int)]
def Sml (r g:Nat):Prop:=r<=1000000/\g<=1000000
def MapP (w:World) (b:Nat) (ps:List (Nat × Nat)):Prop :=
 ∃ n D,n<=ps.length/\w.ownsMap (H:=Unit) Try.prog 109 (plainElem Try.prog 3) b n D /\
   ∀ r g l,Sml r g->keyOf Try.prog 109 (pkey r g)=some l->D.atKey l (.lit (.int .i64 0))=.lit (.int .i64 (jwkb ps r g))
def jxkb (ps:List (Nat × Nat)):List Value:=ps.flatMap fun p => [.int .i64 (p.1:Int),.int .i64 ((p.2 + 1:Nat):Int)]
abbrev OwnP (base:Nat) (w:World) (v:Value) (ps:List (Nat × Nat)):Prop:=w.ownsRow base 109 2 v ps.length (jxkb ps)
theorem jehb:∃ i,Try.prog.info? 109=some i/\i.zero=some (.agg #[.int .i64 0,.int .i64 0])/\i.size=2/\i.bytes=16:=by
 have h:(Try.prog.info? 109).map (fun i=>(i.zero,i.size,i.bytes))=some (some (.agg #[.int .i64 0,.int .i64 0]),2,16):=by kernel_rfl
 cases hq:Try.prog.info? 109 with
 | none=>simp [hq] at h
 | some i=>simp [hq] at h; exact ⟨i,rfl,h⟩
theorem jtj {w:World} {base e size n:Nat} {v:Value} {xs:List Value} (h:w.ownsRow base e size v n xs):∃ A c,v=.slice A n c:=by
 rcases h.2 with ⟨rfl,rfl⟩ | ⟨g,cap,cur,rfl,-⟩
 · exact ⟨none,0,rfl⟩
 · exact ⟨_,_,rfl⟩
theorem jed {w:World} {base e size n:Nat} {v:Value} {xs:List Value} (h:w.ownsRow base e size v n xs):∀ r,v.ownBlock=some r->base<=r/\∃ C,w.heap[r]?=some (.cells C e (0,0)):=fun r hr=>by
 rcases h.2 with ⟨rfl,-⟩ | ⟨g,cap,cur,rfl,hb,hg,-⟩
 · cases hr
 · have:g=r:=Option.some.inj hr
   subst this
   exact ⟨hb,cur,hg⟩
end Go.Proofs
namespace Go.Proofs
open Go.RowKit Go.Shelf Go.Proofs.Ct
theorem jfj {c:Nat} (h:c<=1000) : -1000000<=letter c/\letter c<=1000000:=by
 unfold letter
 split <;> omega
end Go.Proofs
namespace Go.Proofs
open Go.RowKit Go.Shelf Go.Proofs.Ct Go.Maps
structure SysAt (w:World) (vt vr:Value) (bm:Nat) (vl:Value) (t:Tb) (R:List (List Int)) (ps:List (Nat × Nat)):Prop where
 tab:Tab w vt t
 reps:Tab w vr R
 map:MapP w bm ps
 list:∃ base,OwnP base w vl ps
def zero95:Array Value := #[.slice none 0 0,.slice none 0 0,.map none,.slice none 0 0]
section
variable {o:Oper} {a:Act} {w w' : World} {n:Nat} {v:Value}
theorem joa (x:Operand) (ho:o.op=.move x) (hx:a.eval x=v):(execOp a.eval o).run Try.prog w=.ok (.value v) w:=by
 unfold execOp
 simp only [ho,hx]
 rfl
end
end Go.Proofs
namespace Go.Proofs
open Go.RowKit Go.Shelf Go.Proofs.Ct Go.Maps
structure OfSt (w1 wr:World) (vt u vl:Value) (ps:List (Nat × Nat)):Prop where
 below:Below w1.heap.size w1 wr
 box:wr.heap[w1.heap.size + 1]?=some (.cells #[vt,u,.map (some w1.heap.size),vl] 102 (0,0))
 map:MapP wr w1.heap.size ps
 list:OwnP (w1.heap.size + 2) wr vl ps
end Go.Proofs
namespace Go.Proofs
open Go.RowKit Go.Shelf Go.Proofs.Ct Go.Maps
theorem Tab.form {w:World} {v:Value} {xs:List (List Int)} (h:Tab w v xs):∃ A c,v=.slice A xs.length c:=let ⟨A,c,e,_⟩:=h.open_; ⟨A,c,e⟩
end Go.Proofs
namespace Go.Proofs
open Go.RowKit Go.Shelf Go.Proofs.Ct Go.Maps
theorem jjcb (f:FuncId):Fence.wide.fn f:=trivial
theorem jlr:Fence.wide.depth=none:=rfl
attribute [local simp,local go_sem] jjcb jlr
attribute [local go_sem] Oper.semAt_some
def Kb (S:Nat->Prop) (A B:World):Prop:=B.os=A.os/\B.tape=A.tape/\B.output=A.output/\A.heap.size<=B.heap.size/\Ag S A B
structure WkSt (w0 wr:World) (bw br bt:Nat) (vw vt vr:Value) (r:Nat):Prop where
 below:Below w0.heap.size w0 wr
 cw:wr.heap[bw]?=some (.cells #[vw] 25 (0,0))
 ct:wr.heap[bt]?=some (.cells #[vt,vr] 96 (0,0))
 cr:wr.heap[br]?=some (.cells #[.int .i64 (r:Int)] 3 (0,0))
def WkS (w0:World) (bw br bt:Nat):Nat->Prop:=fun k=>k < w0.heap.size\/k=bw\/k=br\/k=bt
theorem jvhb {w:World} {b:Nat} {v:Value} {e:TypeId} (h:w.heap[b]?=some (.cells #[v] e (0,0))):w.cell? ⟨b,0,none⟩=some v/\w.frozen? ⟨b,0,none⟩=false :=
 ⟨by rw [cell_of_row _ _ _ _ _ _ h]; rfl,by simp [World.frozen?,h]⟩
theorem jde {w:World} {b:Nat} {v u:Value} {e:TypeId} (h:w.heap[b]?=some (.cells #[v,u] e (0,0))):w.cell? ⟨b,0,none⟩=some v/\w.cell? ⟨b,1,none⟩=some u :=
 ⟨by rw [cell_of_row _ _ _ _ _ _ h]; rfl,by rw [cell_of_row _ _ _ _ _ _ h]; rfl⟩
def jpk (g:Nat) (w:List Int):Prop:=∀ x ∈ w,-(g:Int)<=x/\x<=g/\x ≠ 0
theorem jpk.at_ {g:Nat} {w:List Int} (h:jpk g w) {k:Nat} (hk:k < w.length) : -(g:Int)<=w.getD k 0/\w.getD k 0<=g/\w.getD k 0 ≠ 0:=by
 rw [List.getD_eq_getElem?_getD,List.getElem?_eq_getElem hk]
 exact h _ (List.getElem_mem hk)
end Go.Proofs
namespace Go.Proofs
open Go.RowKit Go.Shelf Go.Proofs.Ct Go.Maps
structure Turned (bo B:Nat) (W W' : World):Prop where
 os:W'.os=W.os
 tape:W'.tape=W.tape
 output:W'.output=W.output
 size:W.heap.size<=W'.heap.size
 block:∀ k,k < W.heap.size->k ≠ bo->(k < B\/∃ o:Obj,W.heap[k]?=some o/\o.isCells=false)->W'.heap[k]?=W.heap[k]?
end Go.Proofs
namespace Go.Proofs
section
variable {F:Fence} {n:Nat} {P:Program} {ops:Array Oper} {Q:Exit->Act->World->Prop} {md:Region.Mode}
theorem jow:∀ (l:List Bool) (i:Nat),l[i]?=some false->(l.set i true).count false + 1=l.count false
 | [],i,h=>by simp at h
 | b :: l,0,h=>by
   simp at h
   subst h
   simp
 | b :: l,i + 1,h=>by
   have ih:=jow l i (by simpa using h)
   simp only [List.set_cons_succ,List.count_cons]
   omega
theorem jll {listed:Array Bool} {i:Nat} (h:i ∈ Region.ready md ops listed):i < ops.size/\listed.getD i true=false /\
   ∃ o,ops[i]?=some o/\∀ e ∈ o.after.toList,Region.binds md e=true->listed.getD e.on false=true:=by
 simp only [Region.ready,List.mem_filter,List.mem_range,Bool.and_eq_true,Bool.not_eq_true'] at h
 obtain ⟨h1,h2,h3⟩:=h
 refine ⟨h1,h2,ops[i],Array.getElem?_eq_getElem h1,fun e he hb => ?_⟩
 rw [Array.getElem?_eq_getElem h1] at h3
 simp only [Option.map_some,Option.getD_some] at h3
 rw [Array.all_eq_true_iff_forall_mem] at h3
 have:=h3 e (by simpa using he)
 simpa [hb] using this
theorem jqo (I:Array Bool->Act->World->Prop)
   (hstep:∀ listed a w i,listed.size=ops.size->I listed a w->i ∈ Region.ready md ops listed->wpOpIn F n P ops Q i (I (listed.setIfInBounds i true)) a w)
   (hend:∀ listed a w,listed.size=ops.size->I listed a w->Region.ready md ops listed = []->Q .normal a w) :
   ∀ (fuel:Nat) (listed:Array Bool) (a:Act) (w:World),listed.size=ops.size->listed.toList.count false<=fuel->I listed a w->wpAnyIn F n P md ops Q fuel listed a w:=by
 intro fuel
 induction fuel with
 | zero =>
   intro listed a w hs hc hI
   have hr:Region.ready md ops listed = []:=by
     rw [List.eq_nil_iff_forall_not_mem]
     intro i hi
     obtain ⟨h1,h2,_⟩:=jll hi
     have hlt:i < listed.size:=by omega
     have hf:listed[i]=false:=by simpa [Array.getD,hlt] using h2
     have:false ∈ listed.toList:=by rw [<- hf]; simp
     have:=List.count_pos_iff.2 this
     omega
   exact ⟨hr,hend _ _ _ hs hI hr⟩
 | succ fuel ih =>
   intro listed a w hs hc hI
   refine ⟨hend _ _ _ hs hI,fun i hi => ?_⟩
   obtain ⟨h1,h2,_⟩:=jll hi
   have hlt:i < listed.size:=by omega
   have hf:listed.toList[i]?=some false:=by
     have:listed[i]=false:=by simpa [Array.getD,hlt] using h2
     simp [hlt,this]
   have hcs:=jow listed.toList i hf
   refine wpOpIn_mono (fun a' w' h'=>ih _ a' w' (by simpa using hs) ?_ h') (hstep listed a w i hs hI hi)
   rw [Array.toList_setIfInBounds]
   omega
structure Same (a0:Act) (lo N:Nat) (a:Act):Prop where
 size:a.tmps.size=a0.tmps.size
 defers:a.defers=a0.defers
 out:∀ t,t < lo\/lo + N<=t->a.tmps.getD t undef=a0.tmps.getD t undef
theorem jml (a:Act) (t:Nat) (v:Value) (h:t < a.tmps.size):(a.put (some t) v).tmps.getD t undef=v:=by
 simp [Act.put,Array.getD_eq_getD_getElem?,h]
theorem jvk (a:Act) (t u:Nat) (v:Value) (h:t ≠ u):(a.put (some t) v).tmps.getD u undef=a.tmps.getD u undef:=by
 simp only [Act.put,Array.getD_eq_getD_getElem?]
 rw [Array.getElem?_setIfInBounds_ne h]
structure Tailed (ops:Array Oper) (N:Nat):Prop where
 size:ops.size=N + 2
 lex:∀ (i:Nat) (o:Oper),ops[i]?=some o->∀ e ∈ o.after.toList,e.on < i
 succ:∀ i,i < N->∃ (j:Nat) (o:Oper),i < j/\j<=N/\ops[j]?=some o/\∃ e ∈ o.after.toList,e.on=i/\Region.binds .any e=true
 last:∃ o:Oper,ops[N + 1]?=some o/\∃ e ∈ o.after.toList,e.on=N/\Region.binds .any e=true
def Closed (ops:Array Oper) (listed:Array Bool):Prop:=∀ (i:Nat) (o:Oper),ops[i]?=some o->listed.getD i false=true->∀ e ∈ o.after.toList,Region.binds .any e=true->listed.getD e.on false=true
theorem jhj {listed:Array Bool} {i j:Nat} (hi:i < listed.size):(listed.setIfInBounds i true).getD j false=if i=j then true else listed.getD j false:=by
 simp only [Array.getD_eq_getD_getElem?]
 by_cases e:i=j
 · subst e; simp [hi]
 · rw [Array.getElem?_setIfInBounds_ne e,if_neg e]
theorem jwe {listed:Array Bool} {i:Nat} (hi:i < listed.size):listed.getD i true=listed.getD i false:=by
 simp [Array.getD,hi]
section
variable {F:Fence} {n:Nat} {P:Program} {ops:Array Oper} {Q:Exit->Act->World->Prop}
end
end
section
variable {o:Oper} {a:Act} {w w' : World} {n l:Nat} {next:Act->World->Prop} {Q:Exit->Act->World->Prop} {v:Value}
theorem jgd {T i:Nat} (x:Operand) (ad:Value) (ho:o.op=.fieldAddr T x i) (hx:a.eval x=ad) (hf:(Instr.fieldAt T ad i).run Try.prog w=.ok v w):(execOp a.eval o).run Try.prog w=.ok (.value v) w:=by
 unfold execOp; simp only [ho,hx,Sem.run_bind,hf,Result.andThen_ok]; rfl
theorem jkt {f:FuncId} (x y:Operand) (u v:Value) (T:Array TypeId) (ho:o.op=.call { callee:=.value (.func f),args := #[x,y],argTypes:=T }) (hx:a.eval x=u) (hy:a.eval y=v)
   (he:∀ args w,(callFunc f args).run Try.prog w=.ok (.enter f args) w):(execOp a.eval o).run Try.prog w=.ok (.enter f #[u,v]) w:=by
 have hf:a.eval (.func f)=.func (.func f) #[] #[]:=rfl
 unfold execOp
 simp only [ho,resolve,List.map_toArray,List.map_cons,List.map_nil,hx,hy,hf]
 simp [go_sem,he]
theorem jsx {f:FuncId} (x y z:Operand) (u v q:Value) (T:Array TypeId) (ho:o.op=.call { callee:=.value (.func f),args := #[x,y,z],argTypes:=T }) (hx:a.eval x=u) (hy:a.eval y=v) (hz:a.eval z=q)
   (he:∀ args w,(callFunc f args).run Try.prog w=.ok (.enter f args) w):(execOp a.eval o).run Try.prog w=.ok (.enter f #[u,v,q]) w:=by
 have hf:a.eval (.func f)=.func (.func f) #[] #[]:=rfl
 unfold execOp
 simp only [ho,resolve,List.map_toArray,List.map_cons,List.map_nil,hx,hy,hz,hf]
 simp [go_sem,he]
theorem r_neg (x:Operand) (m:Int) (ho:o.op=.unOp .neg 3 x) (hx:a.eval x=.int .i64 m) (hm : -9223372036854775807<=m/\m<=9223372036854775807):(execOp a.eval o).run Try.prog w=.ok (.value (.int .i64 (-m))) w:=by
 have hwr:IntKind.i64.wrap (-m) = -m:=IntWalk.i64_in _ (by omega)
 unfold execOp
 simp only [ho,hx]
 simp [go_sem,hwr]
theorem jho (T:TypeId) (x:Operand) (p u:Value) (ho:o.op=.load T x) (hx:a.eval x=p) (hr:(Instr.loadAt T p).run Try.prog w=.ok u w):(execOp a.eval o).run Try.prog w=.ok (.value u) w:=by
 unfold execOp
 simp only [ho,hx,Sem.run_bind,hr,Result.andThen_ok]
 rfl
end
end Go.Proofs
namespace Go.Proofs
open Go.RowKit Go.Shelf Go.Proofs.Ct Go.Maps
attribute [local simp,local go_sem] jjcb jlr
attribute [local go_sem] Oper.semAt_some
section
variable {o:Oper} {a:Act} {w w' : World} {n:Nat} {Q:Exit->Act->World->Prop} {v:Value}
end
theorem jaa {F:Fence} {n:Nat} {P:Program} {ops:Array Oper} {Q:Exit->Act->World->Prop} {i:Nat} {o:Oper} {K:Act->World->Prop} {a:Act} {w:World} (ho:ops[i]?=some o) (hg:o.guard=none) (h:o.wpIn F n P a w K Q):wpOpIn F n P ops Q i K a w:=by
 unfold wpOpIn
 rw [ho]
 simp only [Region.wanted,hg,if_true]
 exact h
theorem jio {o:Oper} {a:Act} {w:World} {v:Value} (x:Operand) (ho:o.op=.assign x) (hx:a.eval x=v):(execOp a.eval o).run Try.prog w=.ok (.value v) w:=by
 unfold execOp; simp only [ho,hx]; rfl
structure RwSt (w:World) (cs:Array Value) (B:Nat) (X:List Int) (W:World):Prop where
 below:Below w.heap.size w W
 box:W.heap[w.heap.size]?=some (.cells cs 102 (0,0))
 out:∃ A c,W.heap[w.heap.size + 1]?=some (.cells #[.slice A X.length c] 25 (0,0))/\OwnI B W (.slice A X.length c) X
end Go.Proofs
namespace Go.Proofs
open Go.RowKit Go.Shelf Go.Proofs.Ct Go.Maps
def jxa (g:Nat) (x:Int):Bool:=decide (x=0) || decide (x < -(g:Int)) || decide ((g:Int) < x)
theorem jzv {g:Nat} {w:List Int} (h:w.any (jxa g)=false):jpk g w:=fun x hx=>by
 have:=List.any_eq_false.1 h x hx
 unfold jxa at this
 simp at this
 omega
end Go.Proofs
namespace Go.Proofs
open Go.RowKit Go.Shelf Go.Proofs.Ct Go.Maps
def jjb (g:Nat) (rels:List W) (k:Nat):Int:=if 4000 < sumTo rels (k + 1) then 4 else if (rels.getD k []).any (jxa g)=true then 2 else 0
def presE (g:Int) (rels:List W):Int :=
 if g < 1\/16 < g then 2 else if 100 < rels.length then 4 else
 match first (fun k=>decide (jjb g.toNat rels k ≠ 0)) rels.length with
 | some k=>jjb g.toNat rels k
 | none=>0
theorem jxr {g:Nat} {rels:List W} (hg:1<=g/\g<=16) (hl:rels.length<=100) {k:Nat} (hk:k < rels.length) (hz:∀ j,j < k->jjb g rels j=0) (hb:jjb g rels k ≠ 0):presE g rels=jjb g rels k:=by
 unfold presE
 rw [if_neg (by omega),if_neg (by omega),jse hk (by simpa using hb) (fun j hj=>by simpa using hz j hj)]
 rfl
theorem jpm {g:Nat} {rels:List W} (hg:1<=g/\g<=16) (hl:rels.length<=100) (hz:∀ j,j < rels.length->jjb g rels j=0):presE g rels=0:=by
 unfold presE
 rw [if_neg (by omega),if_neg (by omega),jce (fun j hj=>by simpa using hz j hj)]
theorem jhjb (g B:Nat) (vr:Value) (w:World) (hg:g<=16) (hc:w.cell? ⟨B,0,none⟩=some (.int .i64 (g:Int))) (_hc1:w.cell? ⟨B,1,none⟩=some vr) :
   jfcb 167 #[.pointer (some ⟨B,0,none⟩)] (fun x => -9223372036854775808<=x/\x<=9223372036854775807) (jxa g) w:=fun x q hx=>by
 have hcq:(w.drewN q).cell? ⟨B,0,none⟩=some (.int .i64 (g:Int)):=hc
 show Calls Try.prog 167 #[.int .i64 x,.pointer (some ⟨B,0,none⟩)] (w.drewN q) _
 have h0:jxa g x=(decide (x=0) || decide (x < -(g:Int)) || decide ((g:Int) < x)):=rfl
 have H0:=Lib.hid h0
 clear h0
 generalize hW:w.drewN q=W at *
 have HW:=Lib.hid hW
 clear hW
 have hg0:(0:Int)<=(g:Int):=Int.natCast_nonneg _
 have hg1:(g:Int)<=16:=by omega
 by_cases h1:x=0
 · subst h1
   go_enter Try.func167,Try.ntmps167
   go_wp2_with fail
   go_ret
   exact ⟨jsa (by rw [H0.out]; simp),q,HW.out.symm⟩
 · have d1:(x == 0)=false:=by simpa using h1
   by_cases h2:x < -(g:Int)
   · go_enter Try.func167,Try.ntmps167
     go_wp2_with fail
     go_ret
     exact ⟨jsa (by rw [H0.out]; simp [h2]),q,HW.out.symm⟩
   · by_cases h3:(g:Int) < x
     · go_enter Try.func167,Try.ntmps167
       go_wp2_with fail
       go_ret
       exact ⟨jsa (by rw [H0.out]; simp [h3]),q,HW.out.symm⟩
     · go_enter Try.func167,Try.ntmps167
       go_wp2_with fail
       go_ret
       exact ⟨jsa (by rw [H0.out]; simp [h1,h2,h3]),q,HW.out.symm⟩
theorem eg121:∀ args w,(callFunc 167 args).run Try.prog w=.ok (.enter 167 args) w:=enters_of Try.func167 (by kernel_rfl) rfl
end Go.Proofs
namespace Go.Proofs
open Go.RowKit Go.Shelf Go.Proofs.Ct Go.Maps
def jcib (g:Int) (rels:List W) (w:World) (e:Ending) (w' : World):Prop:=(∃ y,e=.returned (.tuple #[.int .i64 (presE g rels),.int .i64 y]))/\Below w.heap.size w w'
theorem jvp {g:Int} {rels:List W} (h:g < 1\/16 < g):presE g rels=2:=by unfold presE; rw [if_pos h]
theorem jyr {g:Int} {rels:List W} (h : ¬ (g < 1\/16 < g)) (h2:100 < rels.length):presE g rels=4:=by unfold presE; rw [if_neg h,if_pos h2]
theorem jjm (rels:List W) (k:Nat):sumTo rels (k + 1)=sumTo rels k + (rels.getD k []).length:=rfl
theorem jjn {g:Nat} {rels:List W} {k:Nat} (h:4000 < sumTo rels (k + 1)):jjb g rels k=4:=by unfold jjb; rw [if_pos h]
theorem jwp {g:Nat} {rels:List W} {k:Nat} (h : ¬ 4000 < sumTo rels (k + 1)) (h2:(rels.getD k []).any (jxa g)=true):jjb g rels k=2:=by unfold jjb; rw [if_neg h,if_pos h2]
theorem jzr {g:Nat} {rels:List W} {k:Nat} (h : ¬ 4000 < sumTo rels (k + 1)) (h2:(rels.getD k []).any (jxa g)=false):jjb g rels k=0:=by unfold jjb; rw [if_neg h,h2]; rfl
set_option maxRecDepth 100000 in
set_option maxHeartbeats 1000000 in
theorem jaj (w:World) (vr:Value) (g:Int) (rels:List W) (hR:Tab w vr rels):Calls Try.prog 102 #[.agg #[.int .i64 g,vr]] w (jcib g rels w):=by
 obtain ⟨Ar,cr,rfl,r1,r2,r3⟩:=hR.open_
 have hbel:Below w.heap.size w (w.alloc (.cells #[.int .i64 g,.slice Ar rels.length cr] 40)):=(Below.refl _ _).alloc (Nat.le_refl _) _
 have HBE:=Lib.hid hbel
 have HR:=Lib.hid r3
 have hnew:=heap_alloc_new w (.cells #[.int .i64 g,.slice Ar rels.length cr] 40)
 have hn0:(0:Int)<=(rels.length:Int):=Int.natCast_nonneg _
 by_cases h1:g < 1\/16 < g
 · have HZ:=Lib.hid (jvp (rels:=rels) h1)
   clear hR r3 hbel hnew
   by_cases h2:g < 1
   · clear h1
     go_enter Try.func102,Try.ntmps102
     go_wp2_with fail
     go_ret2
     exact ⟨⟨_,jqb HZ.out.symm rfl⟩,HBE.out⟩
   · have h3:16 < g:=by omega
     clear h1
     go_enter Try.func102,Try.ntmps102
     go_wp2_with fail
     go_ret2
     exact ⟨⟨_,jqb HZ.out.symm rfl⟩,HBE.out⟩
 · obtain ⟨gn,rfl⟩ : ∃ gn:Nat,g=gn:=⟨g.toNat,by omega⟩
   have hg1 : ¬ (gn:Int) < 1:=by omega
   have hg2 : ¬ (16:Int) < (gn:Int):=by omega
   by_cases h4:100 < rels.length
   · have h4' : (100:Int) < (rels.length:Int):=by omega
     have HZ:=Lib.hid (jyr (rels:=rels) h1 h4)
     clear hR r3 hbel hnew h1 h4
     go_enter Try.func102,Try.ntmps102
     go_wp2_with fail
     go_ret2
     exact ⟨⟨_,jqb HZ.out.symm rfl⟩,HBE.out⟩
   · have h4' : ¬ (100:Int) < (rels.length:Int):=by omega
     have h4'' : (rels.length:Int)<=100:=by omega
     have HS:Hid (∀ k,k < rels.length->(∀ j,j < k->jjb gn rels j=0)->jjb gn rels k ≠ 0->presE (gn:Int) rels=jjb gn rels k):=Lib.hid fun k=>jxr (by omega) (by omega)
     have HN:=Lib.hid (@jpm gn rels (by omega) (by omega))
     have HP:Hid (∀ q,jfcb 167 #[.pointer (some ⟨w.heap.size,0,none⟩)] (fun x => -9223372036854775808<=x/\x<=9223372036854775807) (jxa gn) ((w.alloc (.cells #[.int .i64 (gn:Int),.slice Ar rels.length cr] 40)).drewN q)):=Lib.hid fun q=>jhjb gn w.heap.size (.slice Ar rels.length cr) _ (by omega) (jde hnew).1 (jde hnew).2
     clear hR r3 hbel hnew h1 h4
     go_enter Try.func102,Try.ntmps102
     go_wp2_with fail
     generalize hw0:w.alloc (.cells #[.int .i64 (gn:Int),.slice Ar rels.length cr] 40)=w0 at *
     clear hw0
     go_loopw [4,24] (fun l i wr=>∃ k s:Nat,i=.int .i64 k/\k<=rels.length/\l=.int .i64 (4000 - (s:Int))/\s<=4000/\Hid (s=sumTo rels k/\∀ j,j < k->jjb gn rels j=0)/\∃ q,wr=w0.drewN q) (fun _ i _=>rels.length - (intOf i).toNat)
     case atStart=>exact ⟨0,0,rfl,by omega,rfl,by omega,Lib.hid ⟨rfl,fun j hj=>absurd hj (by omega)⟩,0,rfl⟩
     case round =>
       obtain ⟨k,s,rfl,hk,rfl,hs,HK,q,rfl⟩:=hrel
       have hk0:(0:Int)<=(k:Int):=Int.natCast_nonneg _
       by_cases hlt:k < rels.length
       · have hlt' : (k:Int) < (rels.length:Int):=by omega
         obtain ⟨b,o,rfl,hcc⟩:=HR.out (by omega)
         obtain ⟨u,hu,hI⟩:=hcc k hlt
         have hu' : (w0.drewN q).cell? ⟨b,o + k,none⟩=some u:=(HBE.out.cell (p:=⟨b,o + k,none⟩) (World.block_lt_of_cell? w _ hu)).trans hu
         have HI:=Lib.hid (hI.below HBE.out)
         obtain ⟨Au,cu,rfl,u1,u2,-⟩:=hI.open_
         have HSU:=Lib.hid (jjm rels k)
         have HBL:=Lib.hid (@jjn gn rels k)
         have HBT:=Lib.hid (@jwp gn rels k)
         have HBO:=Lib.hid (@jzr gn rels k)
         have HSK:Hid (jjb gn rels k ≠ 0->presE gn rels=jjb gn rels k):=Lib.hid (HS.out k hlt HK.out.2)
         have HNX:Hid (jjb gn rels k=0->∀ j,j < k + 1->jjb gn rels j=0):=Lib.hid fun h=>jeb HK.out.2 h
         have HSM:=Lib.hid HK.out.1
         have HPR:=Lib.hid (jgq 167 _ _ _ (w0.drewN q) eg121 (HP.out q) _ (rels.getD k []) (HI.out.drewN q) (fun x hx=>HI.out.2 x hx))
         have hln0:(0:Int)<=((rels.getD k []).length:Int):=Int.natCast_nonneg _
         clear hcc hI hu HI HS HN HP HR
         generalize hpe:presE (gn:Int) rels=pe at *
         have HPE:=Lib.hid hpe
         clear hpe
         generalize jjb gn rels k=pb at *
         generalize hsm:sumTo rels (k + 1)=sm at *
         have HSME:=Lib.hid hsm
         clear hsm
         generalize (rels.getD k []).any (jxa gn)=lb at *
         generalize (rels.getD k []).length=L at *
         have hs0:(0:Int)<=(s:Int):=Int.natCast_nonneg _
         have hs1:(s:Int)<=4000:=by omega
         have hL1:(L:Int)<=9223372036854775807:=by omega
         by_cases hov:4000 < s + L
         · have hov' : (4000:Int) - (s:Int) - (L:Int) < 0:=by omega
           have HZ:Hid (pe=4):=Lib.hid (by have h1:=HBL.out (by rw [HSU.out, <- HSM.out]; exact hov); rw [HSK.out (by omega),h1])
           clear hov
           go_wp2_with fail
           go_ret2
           exact ⟨⟨_,jqb (by rw [HPE.out,HZ.out]) rfl⟩,below_drewN HBE.out _⟩
         · have hov' : ¬ (4000:Int) - (s:Int) - (L:Int) < 0:=by omega
           have HSV:=Lib.hid hov
           have hsl:s + L<=4000:=by omega
           clear hov
           cases lb with
           | true =>
             have HZ:Hid (pe=2):=Lib.hid (by have h1:=HBT.out (by rw [HSU.out, <- HSM.out]; exact HSV.out) rfl; rw [HSK.out (by omega),h1])
             go_wp2_with (go_at_call 98; (refine HPR.out.mono ?_); rintro e w' ⟨rfl,q',rfl⟩)
             go_ret2
             exact ⟨⟨_,jqb (by rw [HPE.out,HZ.out]) rfl⟩,below_drewN HBE.out _⟩
           | false =>
             have HZ:Hid (∀ j,j < k + 1->jjb gn rels j=0):=Lib.hid (HNX.out (HBO.out (by rw [HSU.out, <- HSM.out]; exact HSV.out) rfl))
             go_wp2_with (go_at_call 98; (refine HPR.out.mono ?_); rintro e w' ⟨rfl,q',rfl⟩)
             go_roundw
             case rel=>exact ⟨k + 1,s + L,by go_num,by omega,congrArg (Value.int .i64) (by omega),hsl,Lib.hid ⟨by rw [HSME.out,HSU.out,HSM.out],HZ.out⟩,(by first | exact ⟨_,rfl⟩ | exact job)⟩
             case measure=>simp [intOf]; omega
       · obtain rfl:k=rels.length:=by omega
         have HZ:=Lib.hid (HN.out HK.out.2)
         clear HS HN HP HR
         go_wp2_with fail
         go_ret2
         exact ⟨⟨_,jqb HZ.out.symm rfl⟩,below_drewN HBE.out _⟩
end Go.Proofs
namespace Go.Proofs
open Go.RowKit Go.Shelf Go.Proofs.Ct Go.Maps
def jyw (g:Int) (rels:List W) (w:World) (e:Ending) (w' : World):Prop:=e=.returned (.int .i64 (presE g rels))/\Below w.heap.size w w'
set_option maxRecDepth 100000 in
set_option maxHeartbeats 400000 in
theorem jrl (w:World) (g:Nat) (v:Value) (ws:List Int) (hg:g<=16) (hu:jma w v ws):Calls Try.prog 120 #[.int .i64 (g:Int),v] w fun e w'=>e=.returned (.bool (!(ws.any (jxa g))))/\w'=w:=by
 obtain ⟨A,c,rfl,hu1,hu2,hu3⟩:=hu.open_
 have HC:=Lib.hid hu3
 have hg0:(0:Int)<=(g:Int):=Int.natCast_nonneg _
 have hg1:(g:Int)<=16:=by omega
 clear hu hu3
 go_enter Try.func120,Try.ntmps120
 go_wp2_with fail
 go_loopw [5] (fun i wr=>∃ k:Nat,i=.int .i64 k/\k<=ws.length/\Hid (∀ j,j < k->jxa g (ws.getD j 0)=false)/\wr=w) (fun i _=>ws.length - (intOf i).toNat)
 case atStart=>exact ⟨0,rfl,by omega,Lib.hid fun j hj=>absurd hj (by omega),rfl⟩
 case round =>
   obtain ⟨k,rfl,hk,HZ1,rfl⟩:=hrel
   have hk0:(0:Int)<=(k:Int):=Int.natCast_nonneg _
   by_cases hlt:k < ws.length
   · have hlt' : (k:Int) < (ws.length:Int):=by omega
     obtain ⟨bw,ow,rfl,hcc⟩:=HC.out (by omega)
     have hck:=hcc k hlt
     have HNX:Hid (jxa g (ws.getD k 0)=false->∀ j,j < k + 1->jxa g (ws.getD j 0)=false):=Lib.hid fun h=>jeb HZ1.out h
     have HBD:Hid (jxa g (ws.getD k 0)=true->ws.any (jxa g)=true):=Lib.hid fun h=>jel hlt h
     have h0:jxa g (ws.getD k 0)=(decide (ws.getD k 0=0) || decide (ws.getD k 0 < -(g:Int)) || decide ((g:Int) < ws.getD k 0)):=rfl
     have H0:=Lib.hid h0
     clear hcc h0
     generalize jxa g (ws.getD k 0)=lb at *
     generalize ws.getD k 0=x at *
     by_cases e1:x=0
     · have HZ:=Lib.hid (HBD.out (by rw [H0.out]; simp [e1]))
       have d1:(x == 0)=true:=by simpa using e1
       clear e1
       go_wp2_with fail
       go_ret
       exact ⟨jsa (by rw [HZ.out]; rfl),(by first | trivial | rfl)⟩
     · have d1:(x == 0)=false:=by simpa using e1
       by_cases e2:(g:Int) < x
       · have HZ:=Lib.hid (HBD.out (by rw [H0.out]; simp [e2]))
         clear e1
         go_wp2_with fail
         go_ret
         exact ⟨jsa (by rw [HZ.out]; rfl),(by first | trivial | rfl)⟩
       · by_cases e3:x < -(g:Int)
         · have HZ:=Lib.hid (HBD.out (by rw [H0.out]; simp [e3]))
           clear e1
           go_wp2_with fail
           go_ret
           exact ⟨jsa (by rw [HZ.out]; rfl),(by first | trivial | rfl)⟩
         · have HZ2:=Lib.hid (HNX.out (by rw [H0.out]; simp [e1,e2,e3]))
           clear e1
           go_wp2_with fail
           go_roundw
           case rel=>exact ⟨k + 1,by go_num,by omega,HZ2,(by first | trivial | rfl)⟩
           case measure=>simp [intOf]; omega
   · obtain rfl:k=ws.length:=by omega
     have HZ:=Lib.hid (jmj HZ1.out)
     go_wp2_with fail
     go_ret
     exact ⟨jsa (by rw [HZ.out]; rfl),(by first | trivial | rfl)⟩
set_option maxRecDepth 100000 in
set_option maxHeartbeats 1000000 in
theorem jkn (w:World) (vr:Value) (g:Int) (rels:List W) (hR:Tab w vr rels) (hsm:∀ j,(rels.getD j []).length<=100000):Calls Try.prog 119 #[.agg #[.int .i64 g,vr]] w (jyw g rels w):=by
 obtain ⟨Ar,cr,rfl,r1,r2,r3⟩:=hR.open_
 have hbel:Below w.heap.size w (w.alloc (.cells #[.int .i64 g,.slice Ar rels.length cr] 40)):=(Below.refl _ _).alloc (Nat.le_refl _) _
 have HBE:=Lib.hid hbel
 have HSM0:=Lib.hid hsm
 clear hsm
 have HR:=Lib.hid r3
 have hnew:=heap_alloc_new w (.cells #[.int .i64 g,.slice Ar rels.length cr] 40)
 have hn0:(0:Int)<=(rels.length:Int):=Int.natCast_nonneg _
 by_cases h1:g < 1\/16 < g
 · have HZ:=Lib.hid (jvp (rels:=rels) h1)
   clear hR r3 hbel hnew
   by_cases h2:g < 1
   · clear h1
     go_enter Try.func119,Try.ntmps119
     go_wp2_with fail
     go_ret
     exact ⟨jrc HZ.out.symm,HBE.out⟩
   · have h3:16 < g:=by omega
     clear h1
     go_enter Try.func119,Try.ntmps119
     go_wp2_with fail
     go_ret
     exact ⟨jrc HZ.out.symm,HBE.out⟩
 · obtain ⟨gn,rfl⟩ : ∃ gn:Nat,g=gn:=⟨g.toNat,by omega⟩
   have hg1 : ¬ (gn:Int) < 1:=by omega
   have hg2 : ¬ (16:Int) < (gn:Int):=by omega
   by_cases h4:100 < rels.length
   · have h4' : (100:Int) < (rels.length:Int):=by omega
     have HZ:=Lib.hid (jyr (rels:=rels) h1 h4)
     clear hR r3 hbel hnew h1 h4
     go_enter Try.func119,Try.ntmps119
     go_wp2_with fail
     go_ret
     exact ⟨jrc HZ.out.symm,HBE.out⟩
   · have h4' : ¬ (100:Int) < (rels.length:Int):=by omega
     have h4'' : (rels.length:Int)<=100:=by omega
     have HS:Hid (∀ k,k < rels.length->(∀ j,j < k->jjb gn rels j=0)->jjb gn rels k ≠ 0->presE (gn:Int) rels=jjb gn rels k):=Lib.hid fun k=>jxr (by omega) (by omega)
     have HN:=Lib.hid (@jpm gn rels (by omega) (by omega))
     have hgn:gn<=16:=by omega
     have hx0:=(jde hnew).1
     have hx1:=(jde hnew).2
     clear hR r3 hbel hnew h1 h4
     go_enter Try.func119,Try.ntmps119
     go_wp2_with fail
     generalize hw0:w.alloc (.cells #[.int .i64 (gn:Int),.slice Ar rels.length cr] 40)=w0 at *
     clear hw0
     go_loopw [3,4] (fun l i wr=>∃ k s:Nat,i=.int .i64 k/\k<=rels.length/\l=.int .i64 (s:Int)/\s<=4000/\Hid (s=sumTo rels k/\∀ j,j < k->jjb gn rels j=0)/\∃ q,wr=w0.drewN q) (fun _ i _=>rels.length - (intOf i).toNat)
     case atStart=>exact ⟨0,0,rfl,by omega,rfl,by omega,Lib.hid ⟨rfl,fun j hj=>absurd hj (by omega)⟩,0,rfl⟩
     case round =>
       obtain ⟨k,s,rfl,hk,rfl,hs,HK,q,rfl⟩:=hrel
       have hk0:(0:Int)<=(k:Int):=Int.natCast_nonneg _
       by_cases hlt:k < rels.length
       · have hlt' : (k:Int) < (rels.length:Int):=by omega
         obtain ⟨b,o,rfl,hcc⟩:=HR.out (by omega)
         obtain ⟨u,hu,hI⟩:=hcc k hlt
         have hu' : w0.cell? ⟨b,o + k,none⟩=some u:=(HBE.out.cell (p:=⟨b,o + k,none⟩) (World.block_lt_of_cell? w _ hu)).trans hu
         have HI:=Lib.hid (hI.below HBE.out)
         obtain ⟨Au,cu,rfl,u1,u2,-⟩:=hI.open_
         have HSU:=Lib.hid (jjm rels k)
         have HBL:=Lib.hid (@jjn gn rels k)
         have HBT:=Lib.hid (@jwp gn rels k)
         have HBO:=Lib.hid (@jzr gn rels k)
         have HSK:Hid (jjb gn rels k ≠ 0->presE gn rels=jjb gn rels k):=Lib.hid (HS.out k hlt HK.out.2)
         have HNX:Hid (jjb gn rels k=0->∀ j,j < k + 1->jjb gn rels j=0):=Lib.hid fun h=>jeb HK.out.2 h
         have HSM:=Lib.hid HK.out.1
         have HPR:Hid (∀ n,Calls Try.prog 120 #[.int .i64 (gn:Int),.slice Au (rels.getD k []).length cu] (w0.drewN n) fun e w'=>e=.returned (.bool (!((rels.getD k []).any (jxa gn))))/\w0.drewN n=w'):=Lib.hid fun n=>(jrl (w0.drewN n) gn _ (rels.getD k []) hgn (HI.out.drewN n)).mono fun e w' ⟨h,h'⟩=>⟨h,h'.symm⟩
         have hln0:(0:Int)<=((rels.getD k []).length:Int):=Int.natCast_nonneg _
         have hLs:=HSM0.out k
         clear hcc hI hu HI HS HN HR
         generalize hpe:presE (gn:Int) rels=pe at *
         have HPE:=Lib.hid hpe
         clear hpe
         generalize jjb gn rels k=pb at *
         generalize hsm:sumTo rels (k + 1)=sm at *
         have HSME:=Lib.hid hsm
         clear hsm
         generalize (rels.getD k []).any (jxa gn)=lb at *
         generalize (rels.getD k []).length=L at *
         have hs0:(0:Int)<=(s:Int):=Int.natCast_nonneg _
         have hs1:(s:Int)<=4000:=by omega
         have hL2:(L:Int)<=100000:=by omega
         by_cases hov:4000 < s + L
         · have hov' : (4000:Int) < (s:Int) + (L:Int):=by omega
           have HZ:Hid (pe=4):=Lib.hid (by have h1:=HBL.out (by rw [HSU.out, <- HSM.out]; exact hov); rw [HSK.out (by omega),h1])
           clear hov
           go_wp2_with fail
           go_ret
           exact ⟨jrc (by rw [HPE.out,HZ.out]),below_drewN HBE.out _⟩
         · have hov' : ¬ (4000:Int) < (s:Int) + (L:Int):=by omega
           have HSV:=Lib.hid hov
           have hsl:s + L<=4000:=by omega
           clear hov
           cases lb with
           | true =>
             have HZ:Hid (pe=2):=Lib.hid (by have h1:=HBT.out (by rw [HSU.out, <- HSM.out]; exact HSV.out) rfl; rw [HSK.out (by omega),h1])
             go_wp2_with fail
             go_quiet ((go_at_call 120; exact jza (HPR.out _)))
             go_wp2_with fail
             go_ret
             exact ⟨jrc (by rw [HPE.out,HZ.out]),below_drewN (below_drewN HBE.out _) _⟩
           | false =>
             have HZ:Hid (∀ j,j < k + 1->jjb gn rels j=0):=Lib.hid (HNX.out (HBO.out (by rw [HSU.out, <- HSM.out]; exact HSV.out) rfl))
             go_wp2_with fail
             go_quiet ((go_at_call 120; exact jza (HPR.out _)))
             go_wp2_with fail
             go_roundw
             case rel=>exact ⟨k + 1,s + L,by go_num,by omega,by go_num,hsl,Lib.hid ⟨by rw [HSME.out,HSU.out,HSM.out],HZ.out⟩,(by first | exact ⟨_,rfl⟩ | exact job)⟩
             case measure=>simp [intOf]; omega
       · obtain rfl:k=rels.length:=by omega
         have HZ:=Lib.hid (HN.out HK.out.2)
         clear HS HN HR
         go_wp2_with fail
         go_ret
         exact ⟨jrc HZ.out.symm,below_drewN HBE.out _⟩
end Go.Proofs
namespace Go.Proofs
open Go.RowKit Go.Shelf Go.Proofs.Ct Go.Maps
theorem jzlb {g:Nat} {x:Int} (h : -(g:Int)<=x/\x<=g/\x ≠ 0):col x < 2 * g:=by
 unfold col
 split <;> omega
theorem jqfb {x:Int} (h:0 < x):((col x:Nat):Int)=2 * (x - 1):=by unfold col; rw [if_pos h]; omega
theorem jrfb {x:Int} (h : ¬ 0 < x) (h0:x ≠ 0):((col x:Nat):Int)=2 * (-x - 1) + 1:=by unfold col; rw [if_neg h]; omega
theorem jdcb (w:World) (x:Int) (h : -1000000<=x/\x<=1000000/\x ≠ 0):Calls Try.prog 179 #[.int .i64 x] w fun e w'=>e=.returned (.int .i64 (col x:Nat))/\w=w':=by
 obtain ⟨h1,h2,h3⟩:=h
 by_cases hp:x < 0
 · have HC:=Lib.hid (jrfb (by omega : ¬ 0 < x) h3)
   go_enter Try.func179,Try.ntmps179
   go_wp2_with fail
   go_ret
   exact ⟨jrc (by rw [HC.out]),(by first | trivial | rfl)⟩
 · have HC:=Lib.hid (jqfb (by omega:0 < x))
   go_enter Try.func179,Try.ntmps179
   go_wp2_with fail
   go_ret
   exact ⟨jrc (by rw [HC.out]),(by first | trivial | rfl)⟩
theorem jecb (w:World) (x:Int) (h : -1000000<=x/\x<=1000000/\x ≠ 0):Calls Try.prog 132 #[.int .i64 x] w fun e w'=>e=.returned (.int .i64 (col x:Nat))/\w=w':=by
 obtain ⟨h1,h2,h3⟩:=h
 by_cases hp:0 < x
 · have HC:=Lib.hid (jqfb hp)
   go_enter Try.func132,Try.ntmps132
   go_wp2_with fail
   go_ret
   exact ⟨jrc (by rw [HC.out]),(by first | trivial | rfl)⟩
 · have HC:=Lib.hid (jrfb hp h3)
   go_enter Try.func132,Try.ntmps132
   go_wp2_with fail
   go_ret
   exact ⟨jrc (by rw [HC.out]),(by first | trivial | rfl)⟩
set_option maxRecDepth 100000 in
set_option maxHeartbeats 1000000 in
theorem jdq (w:World) (v u:Value) (g:Nat) (t:Tb) (r:Nat) (ws:List Int) (ht:Tab w v t) (hu:jma w u ws) (hg:TGood g t) (hp:∀ r,r < t.length->∀ c,c < 2 * g->0<=t.at r c) (hl:jpk g ws) (hr:r < t.length) :
   Calls Try.prog 121 #[v,.int .i64 (r:Int),u] w fun e w'=>e=.returned (.int .i64 (leads t r ws))/\∃ q,w'=w.drewN q:=by
 obtain ⟨A,c,rfl,h1,h2,h3⟩:=ht.open_
 obtain ⟨Au,cu,rfl,hu1,hu2,hu3⟩:=hu.open_
 obtain ⟨bt,ot,rfl,h4⟩:=h3 (by omega)
 have HT:=Lib.hid h4
 have HU:=Lib.hid hu3
 have HG:=Lib.hid hg
 have HL:=Lib.hid hl
 have HP:=Lib.hid hp
 have hrI:(r:Int) < (t.length:Int):=by omega
 have hr0:(0:Int)<=(r:Int):=Int.natCast_nonneg _
 have hn2:=hg.n2
 have hg16:=hg.g16
 clear ht hu h3 h4 hu3 hg hl hp
 go_enter Try.func121,Try.ntmps121
 go_wp2_with fail
 go_loopw [1,7] (fun f i wr=>∃ k s:Nat,i=.int .i64 k/\k<=ws.length/\f=.int .i64 (s:Int)/\s < t.length/\Hid ((s:Int)=jla t r ws k)/\∃ q,wr=w.drewN q) (fun _ i _=>ws.length - (intOf i).toNat)
 case atStart=>exact ⟨0,r,rfl,by omega,rfl,hr,Lib.hid rfl,0,rfl⟩
 case round =>
   obtain ⟨k,s,rfl,hk,rfl,hs,HS,q,rfl⟩:=hrel
   have hk0:(0:Int)<=(k:Int):=Int.natCast_nonneg _
   have hs0:(0:Int)<=(s:Int):=Int.natCast_nonneg _
   by_cases hlt:k < ws.length
   · have hlt' : (k:Int) < (ws.length:Int):=by omega
     have hsI:(s:Int) < (t.length:Int):=by omega
     obtain ⟨bw,ow,rfl,hcc⟩:=HU.out (by omega)
     have hck:=hcc k hlt
     obtain ⟨u,hu,hI⟩:=HT.out s hs
     have hI2:jma w u (t.row s):=hI
     obtain ⟨Ar,cr,rfl,hr1,hr2,hr3⟩:=hI2.open_
     have hx:=HL.out.at_ hlt
     have hcol:=jzlb hx
     have hrl:=HG.out.len s hs
     obtain ⟨br,or',rfl,hrc⟩:=hr3 (by omega)
     have hcx:=hrc (col (ws.getD k 0)) (by omega)
     have hbd:=HG.out.bd s hs _ hcol
     have hpos:=HP.out s hs _ hcol
     have HNX:Hid (jla t r ws (k + 1)=(t.row s).getD (col (ws.getD k 0)) 0):=Lib.hid (by
       rw [jnb, <- HS.out,if_neg (by omega),Int.toNat_natCast]; rfl)
     have HCO:Hid (∀ n,Calls Try.prog 132 #[.int .i64 (ws.getD k 0)] (w.drewN n) fun e w'=>e=.returned (.int .i64 (col (ws.getD k 0):Nat))/\w.drewN n=w'):=Lib.hid fun n=>jecb _ _ (by omega)
     have hc0:(0:Int)<=((col (ws.getD k 0):Nat):Int):=Int.natCast_nonneg _
     have hc1:((col (ws.getD k 0):Nat):Int) < ((t.row s).length:Int):=by omega
     have hbd' : 0<=(t.row s).getD (col (ws.getD k 0)) 0/\(t.row s).getD (col (ws.getD k 0)) 0 < t.length:=⟨hpos,hbd.2⟩
     clear hcc hI hI2 hr3 hrc hx hcol hrl hbd hpos
     generalize (t.row s).getD (col (ws.getD k 0)) 0=y at *
     generalize col (ws.getD k 0)=cx at *
     generalize ws.getD k 0=x at *
     obtain ⟨hy1,hy2⟩:=hbd'
     obtain ⟨s',rfl⟩ : ∃ s' : Nat,y=s':=⟨y.toNat,by omega⟩
     go_wp2_with fail
     go_quiet ((go_at_call 132; exact jza (HCO.out _)))
     go_wp2_with fail
     go_roundw
     case rel=>exact ⟨k + 1,s',by go_num,by omega,rfl,by omega,Lib.hid HNX.out.symm,(by first | exact ⟨_,rfl⟩ | exact job)⟩
     case measure=>simp [intOf]; omega
   · obtain rfl:k=ws.length:=by omega
     have HZ:Hid ((s:Int)=leads t r ws):=Lib.hid HS.out
     go_wp2_with fail
     go_ret
     exact ⟨jrc (by rw [<- HZ.out]),(by first | exact ⟨_,rfl⟩ | exact job)⟩
theorem jgjb (g B:Nat) (w:World) (hg:g<=16) (hc:w.cell? ⟨B,0,none⟩=some (.int .i64 (g:Int))) :
   jfcb 170 #[.pointer (some ⟨B,0,none⟩)] (fun x => -9223372036854775808<=x/\x<=9223372036854775807) (jxa g) w:=fun x q hx=>by
 have hcq:(w.drewN q).cell? ⟨B,0,none⟩=some (.int .i64 (g:Int)):=hc
 show Calls Try.prog 170 #[.int .i64 x,.pointer (some ⟨B,0,none⟩)] (w.drewN q) _
 have h0:jxa g x=(decide (x=0) || decide (x < -(g:Int)) || decide ((g:Int) < x)):=rfl
 have H0:=Lib.hid h0
 clear h0
 generalize hW:w.drewN q=W at *
 have HW:=Lib.hid hW
 clear hW
 have hg0:(0:Int)<=(g:Int):=Int.natCast_nonneg _
 have hg1:(g:Int)<=16:=by omega
 by_cases h1:x=0
 · subst h1
   go_enter Try.func170,Try.ntmps170
   go_wp2_with fail
   go_ret
   exact ⟨jsa (by rw [H0.out]; simp),q,HW.out.symm⟩
 · have d1:(x == 0)=false:=by simpa using h1
   by_cases h2:x < -(g:Int)
   · go_enter Try.func170,Try.ntmps170
     go_wp2_with fail
     go_ret
     exact ⟨jsa (by rw [H0.out]; simp [h2]),q,HW.out.symm⟩
   · by_cases h3:(g:Int) < x
     · go_enter Try.func170,Try.ntmps170
       go_wp2_with fail
       go_ret
       exact ⟨jsa (by rw [H0.out]; simp [h3]),q,HW.out.symm⟩
     · go_enter Try.func170,Try.ntmps170
       go_wp2_with fail
       go_ret
       exact ⟨jsa (by rw [H0.out]; simp [h1,h2,h3]),q,HW.out.symm⟩
theorem eg124:∀ args w,(callFunc 170 args).run Try.prog w=.ok (.enter 170 args) w:=enters_of Try.func170 (by kernel_rfl) rfl
set_option maxRecDepth 100000 in
theorem jtbb (w:World) (g:Nat) (u:Value) (ws:List Int) (hg:g<=16) (hu:jma w u ws):Calls Try.prog 107 #[.int .i64 (g:Int),u] w fun e w'=>e=.returned (.bool (!(ws.any (jxa g))))/\Below w.heap.size w w':=by
 have hb0:Below w.heap.size w (w.alloc (.cells #[.int .i64 (g:Int)] 3)):=(Below.refl _ _).alloc (Nat.le_refl _) _
 have hnew0:=heap_alloc_new w (.cells #[.int .i64 (g:Int)] 3)
 have HC:=Lib.hid (jgq 170 _ _ _ (w.alloc (.cells #[.int .i64 (g:Int)] 3)) eg124 (jgjb g w.heap.size _ hg (jvhb hnew0).1) u ws (jie.below hu hb0) (fun x hx=>hu.2 x hx))
 have HB:=Lib.hid hb0
 obtain ⟨A,c,rfl,-,-,-⟩:=hu.open_
 clear hu hb0 hnew0
 generalize ws.any (jxa g)=b at *
 go_enter Try.func107,Try.ntmps107
 go_wp2_with (go_at_call 98; (refine HC.out.mono ?_); rintro e w2 ⟨rfl,q,rfl⟩)
 go_ret
 exact ⟨rfl,below_drewN HB.out _⟩
end Go.Proofs
namespace Go.Proofs
open Go.RowKit Go.Shelf Go.Proofs.Ct Go.Maps
def jemb (g:Nat) (lb:Array Value) (p:List Int->Bool) (w:World) (xs:List (List Int)):Prop :=
 ∀ (W:World) (u:Value) (k:Nat),Below w.heap.size w W->k < xs.length->jma W u (xs.getD k [])->Calls Try.prog g (#[u] ++ lb) W fun e w'=>e=.returned (.bool (p (xs.getD k [])))/\Below W.heap.size W w'
theorem jii {p:List Int->Bool} {xs:List (List Int)} (h:∀ j,j < xs.length->p (xs.getD j [])=false):xs.any p=false:=by
 rw [List.any_eq_false]
 intro x hx
 obtain ⟨c,hc,rfl⟩:=List.mem_iff_getElem.1 hx
 have:=h c hc
 rw [List.getD_eq_getElem?_getD,List.getElem?_eq_getElem hc] at this
 simpa using this
theorem jxn {p:List Int->Bool} {xs:List (List Int)} {k:Nat} (hk:k < xs.length) (h:p (xs.getD k [])=true):xs.any p=true:=by
 rw [List.any_eq_true]
 rw [List.getD_eq_getElem?_getD,List.getElem?_eq_getElem hk] at h
 exact ⟨_,List.getElem_mem hk,h⟩
section
variable (g:Nat) (lb:Array Value) (p:List Int->Bool) (w:World) (eg:∀ args w,(callFunc g args).run Try.prog w=.ok (.enter g args) w) (v:Value) (xs:List (List Int)) (h:Tab w v xs) (hp:jemb g lb p w xs)
include eg hp h
end
section
variable (g:Nat) (lb:Array Value) (p:List Int->Bool) (w:World) (eg:∀ args w,(callFunc g args).run Try.prog w=.ok (.enter g args) w) (v:Value) (xs:List (List Int)) (h:Tab w v xs) (hp:jemb g lb p w xs)
include eg hp h
set_option maxRecDepth 100000 in
set_option maxHeartbeats 400000 in
theorem jobb:Calls Try.prog 169 #[v,.func (.func g) #[] lb] w fun e w'=>jxy (xs.any p) e/\Below w.heap.size w w':=by
 obtain ⟨A,c,rfl,hc1,hc2,hc⟩:=h.open_
 have HC:=Lib.hid hc
 have HP:=Lib.hid hp
 clear hc hp h
 go_enter Try.func169,Try.ntmps169
 go_wp2_with fail
 go_loopw [5,8] (fun _ i wr=>∃ k:Nat,k<=xs.length/\i=.int .i64 k/\Hid (∀ j,j < k->p (xs.getD j [])=false)/\Hid (Below w.heap.size w wr)) (fun _ i _=>xs.length - (intOf i).toNat)
 case atStart=>exact ⟨0,Nat.zero_le _,rfl,Lib.hid fun j hj=>absurd hj (by omega),Lib.hid (Below.refl _ _)⟩
 case round =>
   obtain ⟨k,hk,rfl,HZ,HB⟩:=hrel
   have hk0:(0:Int)<=(k:Int):=Int.natCast_nonneg _
   by_cases hlt:k < xs.length
   · have hlt' : (k:Int) < (xs.length:Int):=by omega
     obtain ⟨b,o,rfl,hcc⟩:=HC.out (by omega)
     obtain ⟨u,hu,hI⟩:=hcc k hlt
     have hu':=(HB.out.cell (p:=⟨b,o + k,none⟩) (World.block_lt_of_cell? w _ hu)).trans hu
     have hI2:=hI.below HB.out
     have hcall:=HP.out wr u k HB.out hlt hI2
     obtain ⟨Ar,cr,rfl,-,-,-⟩:=hI2.open_
     clear hcc hu hI hI2
     have HA:=Lib.hid (jxn (p:=p) hlt)
     have HN:Hid (p (xs.getD k [])=false->∀ j,j < k + 1->p (xs.getD j [])=false):=Lib.hid fun h=>jeb HZ.out h
     generalize hpx:p (xs.getD k [])=pb at *
     have HPX:=Lib.hid hpx
     clear hpx
     generalize xs.getD k []=x at *
     have HCALL:=Lib.hid hcall
     clear hcall
     cases pb with
     | true =>
       have HA2:=Lib.hid (HA.out rfl)
       go_wp2_with (go_at_fn g; (refine HCALL.out.mono ?_); rintro e w' ⟨rfl,hb⟩; have HB2:=Lib.hid (HB.out.trans (hb.mono HB.out.size)); clear hb)
       go_ret
       exact ⟨⟨k,rfl,by rw [HA2.out]; simp⟩,HB2.out⟩
     | false =>
       have HN2:=Lib.hid (HN.out rfl)
       go_wp2_with (go_at_fn g; (refine HCALL.out.mono ?_); rintro e w' ⟨rfl,hb⟩; have HB2:=Lib.hid (HB.out.trans (hb.mono HB.out.size)); clear hb)
       go_roundw
       case rel=>exact ⟨k + 1,by omega,by go_num,HN2,HB2⟩
       case measure=>simp [intOf]; omega
   · obtain rfl:k=xs.length:=by omega
     go_wp2_with fail
     go_ret
     exact ⟨⟨-1,rfl,by rw [jii HZ.out]; rfl⟩,HB.out⟩
theorem jfw:Calls Try.prog 105 #[v,.func (.func g) #[] lb] w fun e w'=>e=.returned (.bool (xs.any p))/\Below w.heap.size w w':=by
 have hcon:=Lib.hid (jobb g lb p w eg v xs h hp)
 clear hp h
 go_enter Try.func105,Try.ntmps105
 go_wp2_with (go_at_call 169; (refine hcon.out.mono ?_); rintro e w' ⟨⟨r,rfl,hr⟩,hb⟩; have HR:=Lib.hid hr; have HB:=Lib.hid hb; clear hr hb)
 go_ret
 exact ⟨jsa HR.out,HB.out⟩
end
end Go.Proofs
