/- The walk of CosetTables; The walk of CosetKnown; Words of the call's own, by blocks; results of a presentation and a number; The walk of Known, cases 0 to 6. -/
import Derived.Test.YtmpnengjboabcaaFsCS12
import Derived.Test.YtmpnengjboabcaaFsCS6
import Derived.Test.YtmpnengjboabcaaFsCS18
import Derived.Test.YtmpnengjboabcaaFsCS7
namespace Go.Proofs
open Go.RowKit Go.Shelf Go.Proofs.Ct Go.Maps
theorem jxcb (w:World) (v:Value) (g:Int) (t:Tb) (b:Int) (ht:Tab w v t):Calls Try.prog 57 #[.int .i64 g,v,.int .i64 b] w (jwy g t b w):=by
 by_cases h:(check g t).1 ≠ 0\/b < 0\/(t.length:Int)<=b
 · exact jwcb w v g t b ht h
 · have h1:(check g t).1=0:=by
     by_cases h2:(check g t).1=0
     · exact h2
     · exact absurd (.inl h2) h
   obtain ⟨h0,hg,-⟩:=jzm h1
   have e:g=((g.toNat:Nat):Int):=by omega
   have e2:b=((b.toNat:Nat):Int):=by omega
   rw [e,e2]
   exact jrab w v g.toNat t b.toNat ht hg (by omega)
end Go.Proofs
namespace Go.Proofs
open Go.RowKit Go.Shelf Go.Proofs.Ct Go.Maps
theorem bl3 {a b c:World} (h1:Below a.heap.size a b) (h2:Below b.heap.size b c):Below a.heap.size a c:=h1.trans (h2.mono h1.size)
theorem lit1 (w:World) (x:List Int) (hx:Fits x) {n:Nat} (hn:x.length=n) (hm:n<=1000) {e:TypeId} :
   Tab ((w.alloc (.cells (ints x).toArray 3)).alloc (.cells #[.slice (some ⟨w.heap.size,0,none⟩) n n] e)) (.slice (some ⟨w.heap.size + 1,0,none⟩) 1 1) [x]:=by
 have h1:=jyj w x hx n hn hm
 have hb:Below (w.alloc (.cells (ints x).toArray 3)).heap.size (w.alloc (.cells (ints x).toArray 3)) ((w.alloc (.cells (ints x).toArray 3)).alloc (.cells #[.slice (some ⟨w.heap.size,0,none⟩) n n] e)):=(Below.refl _ _).alloc (Nat.le_refl _) _
 have h2:=heap_alloc_new (w.alloc (.cells (ints x).toArray 3)) (.cells #[.slice (some ⟨w.heap.size,0,none⟩) n n] e)
 rw [World.size_alloc] at h2
 exact jdt (us := [.slice (some ⟨w.heap.size,0,none⟩) n n]) h2 rfl rfl (by simp) fun i hi=>by
   have:i=0:=by simpa using hi
   subst this
   exact jma.below h1 hb
theorem jxj (w:World) (x:List Int) (n:Nat) {e:TypeId}:Below w.heap.size w ((w.alloc (.cells (ints x).toArray 3)).alloc (.cells #[.slice (some ⟨w.heap.size,0,none⟩) n n] e)) :=
 ((Below.refl _ _).alloc (Nat.le_refl _) _).alloc (by simp) _
theorem lit2 (w:World) (x y:List Int) (hx:Fits x) (hy:Fits y) {n m:Nat} (hn:x.length=n) (hm:y.length=m) (hs:n<=1000/\m<=1000) {e:TypeId} :
   Tab (((w.alloc (.cells (ints x).toArray 3)).alloc (.cells (ints y).toArray 3)).alloc (.cells #[.slice (some ⟨w.heap.size,0,none⟩) n n,.slice (some ⟨w.heap.size + 1,0,none⟩) m m] e)) (.slice (some ⟨w.heap.size + 1 + 1,0,none⟩) 2 2) [x,y]:=by
 have h1:=jyj w x hx n hn hs.1
 have h2:=jyj (w.alloc (.cells (ints x).toArray 3)) y hy m hm hs.2
 have hb1:Below (w.alloc (.cells (ints x).toArray 3)).heap.size (w.alloc (.cells (ints x).toArray 3)) ((w.alloc (.cells (ints x).toArray 3)).alloc (.cells (ints y).toArray 3)):=(Below.refl _ _).alloc (Nat.le_refl _) _
 have hb2:=(Below.refl _ ((w.alloc (.cells (ints x).toArray 3)).alloc (.cells (ints y).toArray 3))).alloc (Nat.le_refl _) (.cells #[.slice (some ⟨w.heap.size,0,none⟩) n n,.slice (some ⟨w.heap.size + 1,0,none⟩) m m] e)
 have h3:=heap_alloc_new ((w.alloc (.cells (ints x).toArray 3)).alloc (.cells (ints y).toArray 3)) (.cells #[.slice (some ⟨w.heap.size,0,none⟩) n n,.slice (some ⟨w.heap.size + 1,0,none⟩) m m] e)
 simp only [World.size_alloc] at h2 h3
 exact jdt (us := [.slice (some ⟨w.heap.size,0,none⟩) n n,.slice (some ⟨w.heap.size + 1,0,none⟩) m m]) h3 rfl rfl (by simp) fun i hi=>by
   have:i=0\/i=1:=by simp at hi; omega
   rcases this with rfl | rfl
   · exact (h1.below hb1).below hb2
   · exact h2.below hb2
theorem jtm (w:World) (x y:List Int) (n m:Nat) {e:TypeId}:Below w.heap.size w (((w.alloc (.cells (ints x).toArray 3)).alloc (.cells (ints y).toArray 3)).alloc (.cells #[.slice (some ⟨w.heap.size,0,none⟩) n n,.slice (some ⟨w.heap.size + 1,0,none⟩) m m] e)) :=
 (((Below.refl _ _).alloc (Nat.le_refl _) _).alloc (by simp) _).alloc (by simp; omega) _
theorem lit3 (w:World) (x y z:List Int) (hx:Fits x) (hy:Fits y) (hz:Fits z) {n m l:Nat} (hn:x.length=n) (hm:y.length=m) (hl:z.length=l) (hs:n<=1000/\m<=1000/\l<=1000) {e:TypeId} :
   Tab ((((w.alloc (.cells (ints x).toArray 3)).alloc (.cells (ints y).toArray 3)).alloc (.cells (ints z).toArray 3)).alloc (.cells #[.slice (some ⟨w.heap.size,0,none⟩) n n,.slice (some ⟨w.heap.size + 1,0,none⟩) m m,.slice (some ⟨w.heap.size + 1 + 1,0,none⟩) l l] e)) (.slice (some ⟨w.heap.size + 1 + 1 + 1,0,none⟩) 3 3) [x,y,z]:=by
 have h1:=jyj w x hx n hn hs.1
 have h2:=jyj (w.alloc (.cells (ints x).toArray 3)) y hy m hm hs.2.1
 have h3:=jyj ((w.alloc (.cells (ints x).toArray 3)).alloc (.cells (ints y).toArray 3)) z hz l hl hs.2.2
 have h4:=jrcb _ _ _ _ _ _ _ (h1.below (((Below.refl _ _).alloc (Nat.le_refl _) _).alloc (by simp) _)) (h2.below ((Below.refl _ _).alloc (Nat.le_refl _) _)) h3 (e:=e)
 simp only [World.size_alloc] at h4
 exact h4
theorem jibb (w:World) (x y z:List Int) (n m l:Nat) {e:TypeId}:Below w.heap.size w ((((w.alloc (.cells (ints x).toArray 3)).alloc (.cells (ints y).toArray 3)).alloc (.cells (ints z).toArray 3)).alloc (.cells #[.slice (some ⟨w.heap.size,0,none⟩) n n,.slice (some ⟨w.heap.size + 1,0,none⟩) m m,.slice (some ⟨w.heap.size + 1 + 1,0,none⟩) l l] e)) :=
 ((((Below.refl _ _).alloc (Nat.le_refl _) _).alloc (by simp) _).alloc (by simp; omega) _).alloc (by simp; omega) _
theorem jgl {l:List W} {m:Nat} (h:(l.all fun x=>decide (x.length<=m))=true):∀ j,(l.getD j []).length<=m:=fun j=>by
 rcases Nat.lt_or_ge j l.length with hj | hj
 · rw [List.getD_eq_getElem?_getD,List.getElem?_eq_getElem hj]
   exact of_decide_eq_true (List.all_eq_true.1 h _ (List.getElem_mem hj))
 · rw [List.getD_eq_getElem?_getD,List.getElem?_eq_none hj]
   exact Nat.zero_le _
end Go.Proofs
namespace Go.Proofs
open Go.RowKit Go.Shelf Go.Proofs.Ct Go.Maps
def jab (base:Nat) (w:World) (u:Value) (x:List Int):Prop:=∀ w' : World,(∀ k,base<=k->k < w.heap.size->w'.heap[k]?=w.heap[k]?)->jma w' u x
section
variable {base:Nat} {w w' : World} {u:Value} {x:List Int}
theorem jab.at_ (h:jab base w u x):jma w u x:=h w fun _ _ _=>rfl
theorem jab.below (h:jab base w u x) (hb:Below w.heap.size w w'):jab base w' u x:=fun w'' h''=>h w'' fun k h1 h2=>(h'' k h1 (Nat.lt_of_lt_of_le h2 hb.size)).trans (hb.block k h2)
theorem jab.own {b2:Nat} (h:OwnI b2 w u x) (hf:Fits x) (hb:base<=b2):jab base w u x:=fun w' hw=>OwnI.ints (jna h fun r hr=>by
 obtain ⟨h1,C,hC⟩:=jga h r hr
 exact hw r (by omega) (Array.getElem?_eq_some_iff.1 hC).1) hf
theorem jab.lit (w:World) (x:List Int) (hf:Fits x) {n:Nat} (hn:x.length=n) (hm:n<=1000) (hb:base<=w.heap.size):jab base (w.alloc (.cells (ints x).toArray 3)) (.slice (some ⟨w.heap.size,0,none⟩) n n) x:=fun w' hw =>
 jko ((hw w.heap.size hb (by simp)).trans (heap_alloc_new w _)) hf hn hm
theorem TabB.lit (w:World) (us:List Value) (xs:List W) {e:TypeId} {n:Nat} (hn:us.length=n) (hl:us.length=xs.length) (hm:us.length<=1000) (hb:base<=w.heap.size) (h:∀ i,i < xs.length->jab base w (us.getD i undef) (xs.getD i [])) :
   TabB base (w.alloc (.cells us.toArray e)) (.slice (some ⟨w.heap.size,0,none⟩) n n) xs:=fun w' hw =>
 jdt ((hw w.heap.size hb (by simp)).trans (heap_alloc_new w _)) hn hl hm fun i hi=>(h i hi).below ((Below.refl _ _).alloc (Nat.le_refl _) _) w' hw
end
def jik:Nat->Int × List W × Int
 | 0=>(1, [powW [1] 7],7)
 | 1=>(2, [powW [1] 2,powW [2] 2,powW [1,2] 5],10)
 | 2=>(2, [powW [1] 2,powW [2] 3,powW [1,2] 3],12)
 | 3=>(2, [powW [1] 2,powW [2] 3,powW [1,2] 4],24)
 | 4=>(2, [powW [1] 2,powW [2] 3,powW [1,2] 5],60)
 | 5=>(2, [powW [1] 4, [1,1,-2,-2], [-2,1,2,1]],8)
 | 6=>(2, [powW [1] 3,powW [2] 3,powW [1,2] 3,powW [1,-2] 3],27)
 | 7=>(2, [powW [1] 4,powW [2] 6, [-1,-2,1,2]],24)
 | 8=>(3, [powW [1] 2,powW [2] 2, [3,3],powW [1,2] 3,powW [2,3] 3,powW [1,3] 2],24)
 | 9=>(2, [powW [1] 2,powW [2] 3,powW [1,2] 7,powW [-1,-2,1,2] 4],168)
 | 10=>(2, [[-2,1,2,-1,-1], [-1,2,1,-2,-2]],1)
 | 11=>(3, [powW [1] 2,powW [2] 2, [3,3], [-1,-2,1,2], [-1,-3,1,3], [-2,-3,2,3]],8)
 | 12=>(2, [powW [1] 5,powW [2] 4, [-2,1,2,-1,-1]],20)
 | _=>(2, [powW [1] 7,powW [2] 3, [-2,1,2,-1,-1]],21)
def jta (g:Int) (rels:List W) (n:Int) (w:World) (e:Ending) (w' : World):Prop:=(∃ A c,e=.returned (.tuple #[.agg #[.int .i64 g,.slice A rels.length c],.int .i64 n])/\TabB (w.heap.size + 1) w' (.slice A rels.length c) rels)/\Below w.heap.size w w'
theorem jfc (w:World) (v:Value) (x:List Int) (n L:Nat) (h:jma w v x) (hn:n<=1000) (hx:x.length<=100) (hL:(powW x n).length=L):Calls Try.prog 136 #[v,.int .i64 (n:Int)] w fun e w'=>∃ A c,e=.returned (.slice A L c)/\OwnI w.heap.size w' (.slice A L c) (powW x n)/\Below w.heap.size w w':=by
 subst hL
 exact jlv w v x n h hn hx
structure KS (w W:World):Prop where
 below:Below w.heap.size w W
 box:W.heap[w.heap.size]?=some (.cells jvb 40 (0,0))
theorem KS.lt {w W:World} (h:KS w W):w.heap.size + 1<=W.heap.size:=(Array.getElem?_eq_some_iff.1 h.box).1
theorem KS.below' {w W W' : World} (h:KS w W) (hb:Below W.heap.size W W'):KS w W':=⟨h.below.trans (hb.mono h.below.size),(hb.block _ h.lt).trans h.box⟩
theorem jxb (w W:World) (h:W=((((w.alloc (.cells jvb 40)).alloc (.cells (ints [1]).toArray 3)).alloc (.cells (ints [2]).toArray 3)).alloc (.cells (ints [1,2]).toArray 3)).alloc (.cells (ints [-1,-2,1,2]).toArray 3)) :
   KS w W/\jab (w.heap.size + 1) W (.slice (some ⟨w.heap.size + 1,0,none⟩) 1 1) [1]/\jab (w.heap.size + 1) W (.slice (some ⟨w.heap.size + 1 + 1,0,none⟩) 1 1) [2]/\jab (w.heap.size + 1) W (.slice (some ⟨w.heap.size + 1 + 1 + 1,0,none⟩) 2 2) [1,2]/\jab (w.heap.size + 1) W (.slice (some ⟨w.heap.size + 1 + 1 + 1 + 1,0,none⟩) 4 4) [-1,-2,1,2]:=by
 subst h
 have hb:∀ (V:World) (o:Obj),Below V.heap.size V (V.alloc o):=fun V o=>(Below.refl _ _).alloc (Nat.le_refl _) _
 have s0:KS w (w.alloc (.cells jvb 40)):=⟨hb _ _,heap_alloc_new w _⟩
 have s1:=s0.below' (hb _ (.cells (ints [1]).toArray 3))
 have s2:=s1.below' (hb _ (.cells (ints [2]).toArray 3))
 have s3:=s2.below' (hb _ (.cells (ints [1,2]).toArray 3))
 have s4:=s3.below' (hb _ (.cells (ints [-1,-2,1,2]).toArray 3))
 have f4:=(((jab.lit (base:=w.heap.size + 1) _ [1] (jia (by decide)) (n:=1) rfl (by omega) s0.lt).below (hb _ (.cells (ints [2]).toArray 3))).below (hb _ (.cells (ints [1,2]).toArray 3))).below (hb _ (.cells (ints [-1,-2,1,2]).toArray 3))
 have f5:=((jab.lit (base:=w.heap.size + 1) _ [2] (jia (by decide)) (n:=1) rfl (by omega) s1.lt).below (hb _ (.cells (ints [1,2]).toArray 3))).below (hb _ (.cells (ints [-1,-2,1,2]).toArray 3))
 have f6:=(jab.lit (base:=w.heap.size + 1) _ [1,2] (jia (by decide)) (n:=2) rfl (by omega) s2.lt).below (hb _ (.cells (ints [-1,-2,1,2]).toArray 3))
 have f7:=jab.lit (base:=w.heap.size + 1) _ [-1,-2,1,2] (jia (by decide)) (n:=4) rfl (by omega) s3.lt
 simp only [World.size_alloc] at f4 f5 f6 f7
 exact ⟨s4,f4,f5,f6,f7⟩
theorem jcd {w W:World} (h:KS w W) {us:List Value} {xs:List (List Int)} {n:Nat} (hn:us.length=n) (hl:xs.length=n) (hr:∀ i,i < n->jab (w.heap.size + 1) W (us.getD i undef) (xs.getD i [])) (hm:n<=1000) (g:Int) :
   (W.alloc (.cells us.toArray 25)).heap[w.heap.size]?=some (.cells jvb 40 (0,0)) /\
     TabB (w.heap.size + 1) ((W.alloc (.cells us.toArray 25)).setRow w.heap.size #[.int .i64 g,.slice (some ⟨W.heap.size,0,none⟩) n n]) (.slice (some ⟨W.heap.size,0,none⟩) xs.length n) xs /\
     Below w.heap.size w ((W.alloc (.cells us.toArray 25)).setRow w.heap.size #[.int .i64 g,.slice (some ⟨W.heap.size,0,none⟩) n n]):=by
 have hb:Below W.heap.size W (W.alloc (.cells us.toArray 25)):=(Below.refl _ _).alloc (Nat.le_refl _) _
 have h2:=h.below' hb
 refine ⟨h2.box, ?_,below_setRow h2.below (Nat.le_refl _) _⟩
 rw [hl]
 exact (TabB.lit W us xs hn (by omega) (by omega) h.lt (fun i hi=>hr i (by omega))).keep (by rw [World.setRow]; simp) fun k hk _=>setRow_other _ _ k _ (by omega)
end Go.Proofs
namespace Go.Proofs
open Go.RowKit Go.Shelf Go.Proofs.Ct Go.Maps
set_option maxRecDepth 100000 in
set_option maxHeartbeats 2000000 in
theorem jveb (w:World) (x:Int) (hx:x % 14=0):Calls Try.prog 68 #[.int .i64 x] w (jta 1 [powW [1] 7] 7 w):=by
 have HT:Hid (∀ W,Calls Try.prog 67 #[.int .i64 x,.int .i64 14] W fun e w'=>e=.returned (.int .i64 0)/\w'=W):=Lib.hid fun W=>by
   have:=jpb W x 14 (by omega)
   rwa [show ((14:Nat):Int)=14 from rfl,hx] at this
 clear hx
 unfold jta
 go_enter Try.func68,Try.ntmps68
 go_wp2_with ((with_reducible refine jea 2 ?_); refine jca rfl (jbc rfl) ?_)
 refine (HT.out _).mono ?_
 rintro e w1 ⟨rfl,h0⟩
 obtain ⟨hS,f4,f5,f6,f7⟩:=jxb w w1 h0
 have HS:=Lib.hid hS
 have F4:=Lib.hid f4
 have F5:=Lib.hid f5
 have F6:=Lib.hid f6
 have F7:=Lib.hid f7
 clear hS f4 f5 f6 f7 h0
 go_wp2_with fail
 refine (jfc _ _ [1] 7 7 F4.out.at_ (by omega) (by decide) rfl).mono ?_
 rintro e w2 ⟨A17,c17,rfl,ho,hb⟩
 have hnew:=jab.own (base:=w.heap.size + 1) ho (jia (by decide)) HS.out.lt
 have HS:=Lib.hid (HS.out.below' hb)
 have F4:=Lib.hid (F4.out.below hb)
 have F5:=Lib.hid (F5.out.below hb)
 have F6:=Lib.hid (F6.out.below hb)
 have F7:=Lib.hid (F7.out.below hb)
 have F17:=Lib.hid hnew
 clear ho hb hnew
 have hrow:∀ i,i < 1->jab (w.heap.size + 1) (w2) (([.slice A17 7 c17]:List Value).getD i undef) (([powW [1] 7]:List W).getD i []):=fun i hi=>by
   have:i=0:=by omega
   rcases this with rfl
   · exact F17.out
 have hend:=jcd HS.out (us := [.slice A17 7 c17]) (xs := [powW [1] 7]) (n:=1) rfl rfl hrow (by omega) 1
 have HEND:=Lib.hid hend
 clear hend hrow
 go_wp2_with ((with_reducible refine jea 19 ?_); refine jca rfl (jzb _ (.tmp 18) 1 _ _ _ rfl rfl rfl) ?_; refine wpList_skip rfl (jac (.tmp 2) (.tmp 19) rfl w.heap.size jvb _ rfl rfl HEND.out.1 rfl rfl (jmi _ _ _ _)) ?_)
 try simp only [Exit.inBlock,Exit.then]
 refine bodyPost_ret (jya (p:=2) (q:=3) rfl _ _ w.heap.size _ (.int .i64 7) rfl rfl (setRow_heap _ _ _ _ _ _ HEND.out.1) rfl) rfl ⟨⟨_,_,rfl,HEND.out.2.1⟩,HEND.out.2.2⟩
set_option maxRecDepth 100000 in
set_option maxHeartbeats 2000000 in
theorem jueb (w:World) (x:Int) (hx:x % 14=1):Calls Try.prog 68 #[.int .i64 x] w (jta 2 [powW [1] 2,powW [2] 2,powW [1,2] 5] 10 w):=by
 have HT:Hid (∀ W,Calls Try.prog 67 #[.int .i64 x,.int .i64 14] W fun e w'=>e=.returned (.int .i64 1)/\w'=W):=Lib.hid fun W=>by
   have:=jpb W x 14 (by omega)
   rwa [show ((14:Nat):Int)=14 from rfl,hx] at this
 clear hx
 unfold jta
 go_enter Try.func68,Try.ntmps68
 go_wp2_with ((with_reducible refine jea 2 ?_); refine jca rfl (jbc rfl) ?_)
 refine (HT.out _).mono ?_
 rintro e w1 ⟨rfl,h0⟩
 obtain ⟨hS,f4,f5,f6,f7⟩:=jxb w w1 h0
 have HS:=Lib.hid hS
 have F4:=Lib.hid f4
 have F5:=Lib.hid f5
 have F6:=Lib.hid f6
 have F7:=Lib.hid f7
 clear hS f4 f5 f6 f7 h0
 go_wp2_with fail
 refine (jfc _ _ [1] 2 2 F4.out.at_ (by omega) (by decide) rfl).mono ?_
 rintro e w2 ⟨A23,c23,rfl,ho,hb⟩
 have hnew:=jab.own (base:=w.heap.size + 1) ho (jia (by decide)) HS.out.lt
 have HS:=Lib.hid (HS.out.below' hb)
 have F4:=Lib.hid (F4.out.below hb)
 have F5:=Lib.hid (F5.out.below hb)
 have F6:=Lib.hid (F6.out.below hb)
 have F7:=Lib.hid (F7.out.below hb)
 have F23:=Lib.hid hnew
 clear ho hb hnew
 go_wp2_with fail
 refine (jfc _ _ [2] 2 2 F5.out.at_ (by omega) (by decide) rfl).mono ?_
 rintro e w3 ⟨A25,c25,rfl,ho,hb⟩
 have hnew:=jab.own (base:=w.heap.size + 1) ho (jia (by decide)) HS.out.lt
 have HS:=Lib.hid (HS.out.below' hb)
 have F4:=Lib.hid (F4.out.below hb)
 have F5:=Lib.hid (F5.out.below hb)
 have F6:=Lib.hid (F6.out.below hb)
 have F7:=Lib.hid (F7.out.below hb)
 have F23:=Lib.hid (F23.out.below hb)
 have F25:=Lib.hid hnew
 clear ho hb hnew
 go_wp2_with fail
 refine (jfc _ _ [1,2] 5 10 F6.out.at_ (by omega) (by decide) rfl).mono ?_
 rintro e w4 ⟨A27,c27,rfl,ho,hb⟩
 have hnew:=jab.own (base:=w.heap.size + 1) ho (jia (by decide)) HS.out.lt
 have HS:=Lib.hid (HS.out.below' hb)
 have F4:=Lib.hid (F4.out.below hb)
 have F5:=Lib.hid (F5.out.below hb)
 have F6:=Lib.hid (F6.out.below hb)
 have F7:=Lib.hid (F7.out.below hb)
 have F23:=Lib.hid (F23.out.below hb)
 have F25:=Lib.hid (F25.out.below hb)
 have F27:=Lib.hid hnew
 clear ho hb hnew
 have hrow:∀ i,i < 3->jab (w.heap.size + 1) (w4) (([.slice A23 2 c23,.slice A25 2 c25,.slice A27 10 c27]:List Value).getD i undef) (([powW [1] 2,powW [2] 2,powW [1,2] 5]:List W).getD i []):=fun i hi=>by
   have:i=0\/i=1\/i=2:=by omega
   rcases this with rfl | rfl | rfl
   · exact F23.out
   · exact F25.out
   · exact F27.out
 have hend:=jcd HS.out (us := [.slice A23 2 c23,.slice A25 2 c25,.slice A27 10 c27]) (xs := [powW [1] 2,powW [2] 2,powW [1,2] 5]) (n:=3) rfl rfl hrow (by omega) 2
 have HEND:=Lib.hid hend
 clear hend hrow
 go_wp2_with ((with_reducible refine jea 29 ?_); refine jca rfl (jzb _ (.tmp 28) 2 _ _ _ rfl rfl rfl) ?_; refine wpList_skip rfl (jac (.tmp 2) (.tmp 29) rfl w.heap.size jvb _ rfl rfl HEND.out.1 rfl rfl (jmi _ _ _ _)) ?_)
 try simp only [Exit.inBlock,Exit.then]
 refine bodyPost_ret (jya (p:=2) (q:=3) rfl _ _ w.heap.size _ (.int .i64 10) rfl rfl (setRow_heap _ _ _ _ _ _ HEND.out.1) rfl) rfl ⟨⟨_,_,rfl,HEND.out.2.1⟩,HEND.out.2.2⟩
set_option maxRecDepth 100000 in
set_option maxHeartbeats 2000000 in
theorem jteb (w:World) (x:Int) (hx:x % 14=2):Calls Try.prog 68 #[.int .i64 x] w (jta 2 [powW [1] 2,powW [2] 3,powW [1,2] 3] 12 w):=by
 have HT:Hid (∀ W,Calls Try.prog 67 #[.int .i64 x,.int .i64 14] W fun e w'=>e=.returned (.int .i64 2)/\w'=W):=Lib.hid fun W=>by
   have:=jpb W x 14 (by omega)
   rwa [show ((14:Nat):Int)=14 from rfl,hx] at this
 clear hx
 unfold jta
 go_enter Try.func68,Try.ntmps68
 go_wp2_with ((with_reducible refine jea 2 ?_); refine jca rfl (jbc rfl) ?_)
 refine (HT.out _).mono ?_
 rintro e w1 ⟨rfl,h0⟩
 obtain ⟨hS,f4,f5,f6,f7⟩:=jxb w w1 h0
 have HS:=Lib.hid hS
 have F4:=Lib.hid f4
 have F5:=Lib.hid f5
 have F6:=Lib.hid f6
 have F7:=Lib.hid f7
 clear hS f4 f5 f6 f7 h0
 go_wp2_with fail
 refine (jfc _ _ [1] 2 2 F4.out.at_ (by omega) (by decide) rfl).mono ?_
 rintro e w2 ⟨A33,c33,rfl,ho,hb⟩
 have hnew:=jab.own (base:=w.heap.size + 1) ho (jia (by decide)) HS.out.lt
 have HS:=Lib.hid (HS.out.below' hb)
 have F4:=Lib.hid (F4.out.below hb)
 have F5:=Lib.hid (F5.out.below hb)
 have F6:=Lib.hid (F6.out.below hb)
 have F7:=Lib.hid (F7.out.below hb)
 have F33:=Lib.hid hnew
 clear ho hb hnew
 go_wp2_with fail
 refine (jfc _ _ [2] 3 3 F5.out.at_ (by omega) (by decide) rfl).mono ?_
 rintro e w3 ⟨A35,c35,rfl,ho,hb⟩
 have hnew:=jab.own (base:=w.heap.size + 1) ho (jia (by decide)) HS.out.lt
 have HS:=Lib.hid (HS.out.below' hb)
 have F4:=Lib.hid (F4.out.below hb)
 have F5:=Lib.hid (F5.out.below hb)
 have F6:=Lib.hid (F6.out.below hb)
 have F7:=Lib.hid (F7.out.below hb)
 have F33:=Lib.hid (F33.out.below hb)
 have F35:=Lib.hid hnew
 clear ho hb hnew
 go_wp2_with fail
 refine (jfc _ _ [1,2] 3 6 F6.out.at_ (by omega) (by decide) rfl).mono ?_
 rintro e w4 ⟨A37,c37,rfl,ho,hb⟩
 have hnew:=jab.own (base:=w.heap.size + 1) ho (jia (by decide)) HS.out.lt
 have HS:=Lib.hid (HS.out.below' hb)
 have F4:=Lib.hid (F4.out.below hb)
 have F5:=Lib.hid (F5.out.below hb)
 have F6:=Lib.hid (F6.out.below hb)
 have F7:=Lib.hid (F7.out.below hb)
 have F33:=Lib.hid (F33.out.below hb)
 have F35:=Lib.hid (F35.out.below hb)
 have F37:=Lib.hid hnew
 clear ho hb hnew
 have hrow:∀ i,i < 3->jab (w.heap.size + 1) (w4) (([.slice A33 2 c33,.slice A35 3 c35,.slice A37 6 c37]:List Value).getD i undef) (([powW [1] 2,powW [2] 3,powW [1,2] 3]:List W).getD i []):=fun i hi=>by
   have:i=0\/i=1\/i=2:=by omega
   rcases this with rfl | rfl | rfl
   · exact F33.out
   · exact F35.out
   · exact F37.out
 have hend:=jcd HS.out (us := [.slice A33 2 c33,.slice A35 3 c35,.slice A37 6 c37]) (xs := [powW [1] 2,powW [2] 3,powW [1,2] 3]) (n:=3) rfl rfl hrow (by omega) 2
 have HEND:=Lib.hid hend
 clear hend hrow
 go_wp2_with ((with_reducible refine jea 39 ?_); refine jca rfl (jzb _ (.tmp 38) 2 _ _ _ rfl rfl rfl) ?_; refine wpList_skip rfl (jac (.tmp 2) (.tmp 39) rfl w.heap.size jvb _ rfl rfl HEND.out.1 rfl rfl (jmi _ _ _ _)) ?_)
 try simp only [Exit.inBlock,Exit.then]
 refine bodyPost_ret (jya (p:=2) (q:=3) rfl _ _ w.heap.size _ (.int .i64 12) rfl rfl (setRow_heap _ _ _ _ _ _ HEND.out.1) rfl) rfl ⟨⟨_,_,rfl,HEND.out.2.1⟩,HEND.out.2.2⟩
set_option maxRecDepth 100000 in
set_option maxHeartbeats 2000000 in
theorem jseb (w:World) (x:Int) (hx:x % 14=3):Calls Try.prog 68 #[.int .i64 x] w (jta 2 [powW [1] 2,powW [2] 3,powW [1,2] 4] 24 w):=by
 have HT:Hid (∀ W,Calls Try.prog 67 #[.int .i64 x,.int .i64 14] W fun e w'=>e=.returned (.int .i64 3)/\w'=W):=Lib.hid fun W=>by
   have:=jpb W x 14 (by omega)
   rwa [show ((14:Nat):Int)=14 from rfl,hx] at this
 clear hx
 unfold jta
 go_enter Try.func68,Try.ntmps68
 go_wp2_with ((with_reducible refine jea 2 ?_); refine jca rfl (jbc rfl) ?_)
 refine (HT.out _).mono ?_
 rintro e w1 ⟨rfl,h0⟩
 obtain ⟨hS,f4,f5,f6,f7⟩:=jxb w w1 h0
 have HS:=Lib.hid hS
 have F4:=Lib.hid f4
 have F5:=Lib.hid f5
 have F6:=Lib.hid f6
 have F7:=Lib.hid f7
 clear hS f4 f5 f6 f7 h0
 go_wp2_with fail
 refine (jfc _ _ [1] 2 2 F4.out.at_ (by omega) (by decide) rfl).mono ?_
 rintro e w2 ⟨A43,c43,rfl,ho,hb⟩
 have hnew:=jab.own (base:=w.heap.size + 1) ho (jia (by decide)) HS.out.lt
 have HS:=Lib.hid (HS.out.below' hb)
 have F4:=Lib.hid (F4.out.below hb)
 have F5:=Lib.hid (F5.out.below hb)
 have F6:=Lib.hid (F6.out.below hb)
 have F7:=Lib.hid (F7.out.below hb)
 have F43:=Lib.hid hnew
 clear ho hb hnew
 go_wp2_with fail
 refine (jfc _ _ [2] 3 3 F5.out.at_ (by omega) (by decide) rfl).mono ?_
 rintro e w3 ⟨A45,c45,rfl,ho,hb⟩
 have hnew:=jab.own (base:=w.heap.size + 1) ho (jia (by decide)) HS.out.lt
 have HS:=Lib.hid (HS.out.below' hb)
 have F4:=Lib.hid (F4.out.below hb)
 have F5:=Lib.hid (F5.out.below hb)
 have F6:=Lib.hid (F6.out.below hb)
 have F7:=Lib.hid (F7.out.below hb)
 have F43:=Lib.hid (F43.out.below hb)
 have F45:=Lib.hid hnew
 clear ho hb hnew
 go_wp2_with fail
 refine (jfc _ _ [1,2] 4 8 F6.out.at_ (by omega) (by decide) rfl).mono ?_
 rintro e w4 ⟨A47,c47,rfl,ho,hb⟩
 have hnew:=jab.own (base:=w.heap.size + 1) ho (jia (by decide)) HS.out.lt
 have HS:=Lib.hid (HS.out.below' hb)
 have F4:=Lib.hid (F4.out.below hb)
 have F5:=Lib.hid (F5.out.below hb)
 have F6:=Lib.hid (F6.out.below hb)
 have F7:=Lib.hid (F7.out.below hb)
 have F43:=Lib.hid (F43.out.below hb)
 have F45:=Lib.hid (F45.out.below hb)
 have F47:=Lib.hid hnew
 clear ho hb hnew
 have hrow:∀ i,i < 3->jab (w.heap.size + 1) (w4) (([.slice A43 2 c43,.slice A45 3 c45,.slice A47 8 c47]:List Value).getD i undef) (([powW [1] 2,powW [2] 3,powW [1,2] 4]:List W).getD i []):=fun i hi=>by
   have:i=0\/i=1\/i=2:=by omega
   rcases this with rfl | rfl | rfl
   · exact F43.out
   · exact F45.out
   · exact F47.out
 have hend:=jcd HS.out (us := [.slice A43 2 c43,.slice A45 3 c45,.slice A47 8 c47]) (xs := [powW [1] 2,powW [2] 3,powW [1,2] 4]) (n:=3) rfl rfl hrow (by omega) 2
 have HEND:=Lib.hid hend
 clear hend hrow
 go_wp2_with ((with_reducible refine jea 49 ?_); refine jca rfl (jzb _ (.tmp 48) 2 _ _ _ rfl rfl rfl) ?_; refine wpList_skip rfl (jac (.tmp 2) (.tmp 49) rfl w.heap.size jvb _ rfl rfl HEND.out.1 rfl rfl (jmi _ _ _ _)) ?_)
 try simp only [Exit.inBlock,Exit.then]
 refine bodyPost_ret (jya (p:=2) (q:=3) rfl _ _ w.heap.size _ (.int .i64 24) rfl rfl (setRow_heap _ _ _ _ _ _ HEND.out.1) rfl) rfl ⟨⟨_,_,rfl,HEND.out.2.1⟩,HEND.out.2.2⟩
set_option maxRecDepth 100000 in
set_option maxHeartbeats 2000000 in
theorem jreb (w:World) (x:Int) (hx:x % 14=4):Calls Try.prog 68 #[.int .i64 x] w (jta 2 [powW [1] 2,powW [2] 3,powW [1,2] 5] 60 w):=by
 have HT:Hid (∀ W,Calls Try.prog 67 #[.int .i64 x,.int .i64 14] W fun e w'=>e=.returned (.int .i64 4)/\w'=W):=Lib.hid fun W=>by
   have:=jpb W x 14 (by omega)
   rwa [show ((14:Nat):Int)=14 from rfl,hx] at this
 clear hx
 unfold jta
 go_enter Try.func68,Try.ntmps68
 go_wp2_with ((with_reducible refine jea 2 ?_); refine jca rfl (jbc rfl) ?_)
 refine (HT.out _).mono ?_
 rintro e w1 ⟨rfl,h0⟩
 obtain ⟨hS,f4,f5,f6,f7⟩:=jxb w w1 h0
 have HS:=Lib.hid hS
 have F4:=Lib.hid f4
 have F5:=Lib.hid f5
 have F6:=Lib.hid f6
 have F7:=Lib.hid f7
 clear hS f4 f5 f6 f7 h0
 go_wp2_with fail
 refine (jfc _ _ [1] 2 2 F4.out.at_ (by omega) (by decide) rfl).mono ?_
 rintro e w2 ⟨A53,c53,rfl,ho,hb⟩
 have hnew:=jab.own (base:=w.heap.size + 1) ho (jia (by decide)) HS.out.lt
 have HS:=Lib.hid (HS.out.below' hb)
 have F4:=Lib.hid (F4.out.below hb)
 have F5:=Lib.hid (F5.out.below hb)
 have F6:=Lib.hid (F6.out.below hb)
 have F7:=Lib.hid (F7.out.below hb)
 have F53:=Lib.hid hnew
 clear ho hb hnew
 go_wp2_with fail
 refine (jfc _ _ [2] 3 3 F5.out.at_ (by omega) (by decide) rfl).mono ?_
 rintro e w3 ⟨A55,c55,rfl,ho,hb⟩
 have hnew:=jab.own (base:=w.heap.size + 1) ho (jia (by decide)) HS.out.lt
 have HS:=Lib.hid (HS.out.below' hb)
 have F4:=Lib.hid (F4.out.below hb)
 have F5:=Lib.hid (F5.out.below hb)
 have F6:=Lib.hid (F6.out.below hb)
 have F7:=Lib.hid (F7.out.below hb)
 have F53:=Lib.hid (F53.out.below hb)
 have F55:=Lib.hid hnew
 clear ho hb hnew
 go_wp2_with fail
 refine (jfc _ _ [1,2] 5 10 F6.out.at_ (by omega) (by decide) rfl).mono ?_
 rintro e w4 ⟨A57,c57,rfl,ho,hb⟩
 have hnew:=jab.own (base:=w.heap.size + 1) ho (jia (by decide)) HS.out.lt
 have HS:=Lib.hid (HS.out.below' hb)
 have F4:=Lib.hid (F4.out.below hb)
 have F5:=Lib.hid (F5.out.below hb)
 have F6:=Lib.hid (F6.out.below hb)
 have F7:=Lib.hid (F7.out.below hb)
 have F53:=Lib.hid (F53.out.below hb)
 have F55:=Lib.hid (F55.out.below hb)
 have F57:=Lib.hid hnew
 clear ho hb hnew
 have hrow:∀ i,i < 3->jab (w.heap.size + 1) (w4) (([.slice A53 2 c53,.slice A55 3 c55,.slice A57 10 c57]:List Value).getD i undef) (([powW [1] 2,powW [2] 3,powW [1,2] 5]:List W).getD i []):=fun i hi=>by
   have:i=0\/i=1\/i=2:=by omega
   rcases this with rfl | rfl | rfl
   · exact F53.out
   · exact F55.out
   · exact F57.out
 have hend:=jcd HS.out (us := [.slice A53 2 c53,.slice A55 3 c55,.slice A57 10 c57]) (xs := [powW [1] 2,powW [2] 3,powW [1,2] 5]) (n:=3) rfl rfl hrow (by omega) 2
 have HEND:=Lib.hid hend
 clear hend hrow
 go_wp2_with ((with_reducible refine jea 59 ?_); refine jca rfl (jzb _ (.tmp 58) 2 _ _ _ rfl rfl rfl) ?_; refine wpList_skip rfl (jac (.tmp 2) (.tmp 59) rfl w.heap.size jvb _ rfl rfl HEND.out.1 rfl rfl (jmi _ _ _ _)) ?_)
 try simp only [Exit.inBlock,Exit.then]
 refine bodyPost_ret (jya (p:=2) (q:=3) rfl _ _ w.heap.size _ (.int .i64 60) rfl rfl (setRow_heap _ _ _ _ _ _ HEND.out.1) rfl) rfl ⟨⟨_,_,rfl,HEND.out.2.1⟩,HEND.out.2.2⟩
set_option maxRecDepth 100000 in
set_option maxHeartbeats 2000000 in
theorem jqeb (w:World) (x:Int) (hx:x % 14=5):Calls Try.prog 68 #[.int .i64 x] w (jta 2 [powW [1] 4, [1,1,-2,-2], [-2,1,2,1]] 8 w):=by
 have HT:Hid (∀ W,Calls Try.prog 67 #[.int .i64 x,.int .i64 14] W fun e w'=>e=.returned (.int .i64 5)/\w'=W):=Lib.hid fun W=>by
   have:=jpb W x 14 (by omega)
   rwa [show ((14:Nat):Int)=14 from rfl,hx] at this
 clear hx
 unfold jta
 go_enter Try.func68,Try.ntmps68
 go_wp2_with ((with_reducible refine jea 2 ?_); refine jca rfl (jbc rfl) ?_)
 refine (HT.out _).mono ?_
 rintro e w1 ⟨rfl,h0⟩
 obtain ⟨hS,f4,f5,f6,f7⟩:=jxb w w1 h0
 have HS:=Lib.hid hS
 have F4:=Lib.hid f4
 have F5:=Lib.hid f5
 have F6:=Lib.hid f6
 have F7:=Lib.hid f7
 clear hS f4 f5 f6 f7 h0
 go_wp2_with fail
 refine (jfc _ _ [1] 4 4 F4.out.at_ (by omega) (by decide) rfl).mono ?_
 rintro e w2 ⟨A63,c63,rfl,ho,hb⟩
 have hnew:=jab.own (base:=w.heap.size + 1) ho (jia (by decide)) HS.out.lt
 have HS:=Lib.hid (HS.out.below' hb)
 have F4:=Lib.hid (F4.out.below hb)
 have F5:=Lib.hid (F5.out.below hb)
 have F6:=Lib.hid (F6.out.below hb)
 have F7:=Lib.hid (F7.out.below hb)
 have F63:=Lib.hid hnew
 clear ho hb hnew
 have hal:Below (w2).heap.size (w2) ((w2).alloc (.cells (ints [1,1,-2,-2]).toArray 3)):=(Below.refl _ _).alloc (Nat.le_refl _) _
 have hnew:=jab.lit (base:=w.heap.size + 1) (w2) [1,1,-2,-2] (jia (by decide)) (n:=4) rfl (by omega) HS.out.lt
 have HS:=Lib.hid (HS.out.below' hal)
 have F4:=Lib.hid (F4.out.below hal)
 have F5:=Lib.hid (F5.out.below hal)
 have F6:=Lib.hid (F6.out.below hal)
 have F7:=Lib.hid (F7.out.below hal)
 have F63:=Lib.hid (F63.out.below hal)
 have F64:=Lib.hid hnew
 clear hal hnew
 have hal:Below ((w2).alloc (.cells (ints [1,1,-2,-2]).toArray 3)).heap.size ((w2).alloc (.cells (ints [1,1,-2,-2]).toArray 3)) (((w2).alloc (.cells (ints [1,1,-2,-2]).toArray 3)).alloc (.cells (ints [-2,1,2,1]).toArray 3)):=(Below.refl _ _).alloc (Nat.le_refl _) _
 have hnew:=jab.lit (base:=w.heap.size + 1) ((w2).alloc (.cells (ints [1,1,-2,-2]).toArray 3)) [-2,1,2,1] (jia (by decide)) (n:=4) rfl (by omega) HS.out.lt
 simp only [World.size_alloc] at hnew
 have HS:=Lib.hid (HS.out.below' hal)
 have F4:=Lib.hid (F4.out.below hal)
 have F5:=Lib.hid (F5.out.below hal)
 have F6:=Lib.hid (F6.out.below hal)
 have F7:=Lib.hid (F7.out.below hal)
 have F63:=Lib.hid (F63.out.below hal)
 have F64:=Lib.hid (F64.out.below hal)
 have F65:=Lib.hid hnew
 clear hal hnew
 have hrow:∀ i,i < 3->jab (w.heap.size + 1) (((w2).alloc (.cells (ints [1,1,-2,-2]).toArray 3)).alloc (.cells (ints [-2,1,2,1]).toArray 3)) (([.slice A63 4 c63,.slice (some ⟨w2.heap.size,0,none⟩) 4 4,.slice (some ⟨w2.heap.size + 1,0,none⟩) 4 4]:List Value).getD i undef) (([powW [1] 4, [1,1,-2,-2], [-2,1,2,1]]:List W).getD i []):=fun i hi=>by
   have:i=0\/i=1\/i=2:=by omega
   rcases this with rfl | rfl | rfl
   · exact F63.out
   · exact F64.out
   · exact F65.out
 have hend:=jcd HS.out (us := [.slice A63 4 c63,.slice (some ⟨w2.heap.size,0,none⟩) 4 4,.slice (some ⟨w2.heap.size + 1,0,none⟩) 4 4]) (xs := [powW [1] 4, [1,1,-2,-2], [-2,1,2,1]]) (n:=3) rfl rfl hrow (by omega) 2
 simp only [World.size_alloc] at hend
 have HEND:=Lib.hid hend
 clear hend hrow
 go_wp2_with ((with_reducible refine jea 67 ?_); refine jca rfl (jzb _ (.tmp 66) 2 _ _ _ rfl rfl rfl) ?_; refine wpList_skip rfl (jac (.tmp 2) (.tmp 67) rfl w.heap.size jvb _ rfl rfl HEND.out.1 rfl rfl (jmi _ _ _ _)) ?_)
 try simp only [Exit.inBlock,Exit.then]
 refine bodyPost_ret (jya (p:=2) (q:=3) rfl _ _ w.heap.size _ (.int .i64 8) rfl rfl (setRow_heap _ _ _ _ _ _ HEND.out.1) rfl) rfl ⟨⟨_,_,rfl,HEND.out.2.1⟩,HEND.out.2.2⟩
set_option maxRecDepth 100000 in
set_option maxHeartbeats 2000000 in
theorem jpeb (w:World) (x:Int) (hx:x % 14=6):Calls Try.prog 68 #[.int .i64 x] w (jta 2 [powW [1] 3,powW [2] 3,powW [1,2] 3,powW [1,-2] 3] 27 w):=by
 have HT:Hid (∀ W,Calls Try.prog 67 #[.int .i64 x,.int .i64 14] W fun e w'=>e=.returned (.int .i64 6)/\w'=W):=Lib.hid fun W=>by
   have:=jpb W x 14 (by omega)
   rwa [show ((14:Nat):Int)=14 from rfl,hx] at this
 clear hx
 unfold jta
 go_enter Try.func68,Try.ntmps68
 go_wp2_with ((with_reducible refine jea 2 ?_); refine jca rfl (jbc rfl) ?_)
 refine (HT.out _).mono ?_
 rintro e w1 ⟨rfl,h0⟩
 obtain ⟨hS,f4,f5,f6,f7⟩:=jxb w w1 h0
 have HS:=Lib.hid hS
 have F4:=Lib.hid f4
 have F5:=Lib.hid f5
 have F6:=Lib.hid f6
 have F7:=Lib.hid f7
 clear hS f4 f5 f6 f7 h0
 go_wp2_with fail
 refine (jfc _ _ [1] 3 3 F4.out.at_ (by omega) (by decide) rfl).mono ?_
 rintro e w2 ⟨A71,c71,rfl,ho,hb⟩
 have hnew:=jab.own (base:=w.heap.size + 1) ho (jia (by decide)) HS.out.lt
 have HS:=Lib.hid (HS.out.below' hb)
 have F4:=Lib.hid (F4.out.below hb)
 have F5:=Lib.hid (F5.out.below hb)
 have F6:=Lib.hid (F6.out.below hb)
 have F7:=Lib.hid (F7.out.below hb)
 have F71:=Lib.hid hnew
 clear ho hb hnew
 go_wp2_with fail
 refine (jfc _ _ [2] 3 3 F5.out.at_ (by omega) (by decide) rfl).mono ?_
 rintro e w3 ⟨A73,c73,rfl,ho,hb⟩
 have hnew:=jab.own (base:=w.heap.size + 1) ho (jia (by decide)) HS.out.lt
 have HS:=Lib.hid (HS.out.below' hb)
 have F4:=Lib.hid (F4.out.below hb)
 have F5:=Lib.hid (F5.out.below hb)
 have F6:=Lib.hid (F6.out.below hb)
 have F7:=Lib.hid (F7.out.below hb)
 have F71:=Lib.hid (F71.out.below hb)
 have F73:=Lib.hid hnew
 clear ho hb hnew
 go_wp2_with fail
 refine (jfc _ _ [1,2] 3 6 F6.out.at_ (by omega) (by decide) rfl).mono ?_
 rintro e w4 ⟨A75,c75,rfl,ho,hb⟩
 have hnew:=jab.own (base:=w.heap.size + 1) ho (jia (by decide)) HS.out.lt
 have HS:=Lib.hid (HS.out.below' hb)
 have F4:=Lib.hid (F4.out.below hb)
 have F5:=Lib.hid (F5.out.below hb)
 have F6:=Lib.hid (F6.out.below hb)
 have F7:=Lib.hid (F7.out.below hb)
 have F71:=Lib.hid (F71.out.below hb)
 have F73:=Lib.hid (F73.out.below hb)
 have F75:=Lib.hid hnew
 clear ho hb hnew
 have hal:Below (w4).heap.size (w4) ((w4).alloc (.cells (ints [1,-2]).toArray 3)):=(Below.refl _ _).alloc (Nat.le_refl _) _
 have hnew:=jab.lit (base:=w.heap.size + 1) (w4) [1,-2] (jia (by decide)) (n:=2) rfl (by omega) HS.out.lt
 have HS:=Lib.hid (HS.out.below' hal)
 have F4:=Lib.hid (F4.out.below hal)
 have F5:=Lib.hid (F5.out.below hal)
 have F6:=Lib.hid (F6.out.below hal)
 have F7:=Lib.hid (F7.out.below hal)
 have F71:=Lib.hid (F71.out.below hal)
 have F73:=Lib.hid (F73.out.below hal)
 have F75:=Lib.hid (F75.out.below hal)
 have F76:=Lib.hid hnew
 clear hal hnew
 go_wp2_with fail
 refine (jfc _ _ [1,-2] 3 6 F76.out.at_ (by omega) (by decide) rfl).mono ?_
 rintro e w5 ⟨A77,c77,rfl,ho,hb⟩
 have hnew:=jab.own (base:=w.heap.size + 1) ho (jia (by decide)) HS.out.lt
 have HS:=Lib.hid (HS.out.below' hb)
 have F4:=Lib.hid (F4.out.below hb)
 have F5:=Lib.hid (F5.out.below hb)
 have F6:=Lib.hid (F6.out.below hb)
 have F7:=Lib.hid (F7.out.below hb)
 have F71:=Lib.hid (F71.out.below hb)
 have F73:=Lib.hid (F73.out.below hb)
 have F75:=Lib.hid (F75.out.below hb)
 have F76:=Lib.hid (F76.out.below hb)
 have F77:=Lib.hid hnew
 clear ho hb hnew
 have hrow:∀ i,i < 4->jab (w.heap.size + 1) (w5) (([.slice A71 3 c71,.slice A73 3 c73,.slice A75 6 c75,.slice A77 6 c77]:List Value).getD i undef) (([powW [1] 3,powW [2] 3,powW [1,2] 3,powW [1,-2] 3]:List W).getD i []):=fun i hi=>by
   have:i=0\/i=1\/i=2\/i=3:=by omega
   rcases this with rfl | rfl | rfl | rfl
   · exact F71.out
   · exact F73.out
   · exact F75.out
   · exact F77.out
 have hend:=jcd HS.out (us := [.slice A71 3 c71,.slice A73 3 c73,.slice A75 6 c75,.slice A77 6 c77]) (xs := [powW [1] 3,powW [2] 3,powW [1,2] 3,powW [1,-2] 3]) (n:=4) rfl rfl hrow (by omega) 2
 have HEND:=Lib.hid hend
 clear hend hrow
 go_wp2_with ((with_reducible refine jea 79 ?_); refine jca rfl (jzb _ (.tmp 78) 2 _ _ _ rfl rfl rfl) ?_; refine wpList_skip rfl (jac (.tmp 2) (.tmp 79) rfl w.heap.size jvb _ rfl rfl HEND.out.1 rfl rfl (jmi _ _ _ _)) ?_)
 try simp only [Exit.inBlock,Exit.then]
 refine bodyPost_ret (jya (p:=2) (q:=3) rfl _ _ w.heap.size _ (.int .i64 27) rfl rfl (setRow_heap _ _ _ _ _ _ HEND.out.1) rfl) rfl ⟨⟨_,_,rfl,HEND.out.2.1⟩,HEND.out.2.2⟩
end Go.Proofs
