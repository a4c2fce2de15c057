/- slices.ContainsFunc at lists of lists; coset.Complete; Holds: the plain law; the closures of coset.Holds; coset.Holds; The reference's system in memory: its box, its rows of numbers; The reference's system under construction; The reference's rewrite of a system; rewrite.Present: what it answers; structs of type 40; the relators under way; rewrite.Present; The law of chapter 21: same, half, awake; A region that draws its order, with guarded operations: each operation is shown once; A region that draws its order, whatever it holds: each operation is shown once; One operation at a time: what it runs to; (*coset.state).find; (*coset.state).alive, join, merge; (*coset.state).merge. -/
import Derived.Test.YtmpnengjboabcaaFmCS5
import Derived.Test.YtmpnengjboabcaaFmCS4
import Derived.Deep.MidRow
import Derived.Deep.RegionHeld3
import Derived.BigRegion
import Derived.WalkMore
namespace Go.Proofs
open Go.RowKit Go.Shelf Go.Proofs.Ct Go.Maps
def PredB (g : Nat) (lb : Array Value) (p : List Int -> Bool) (w : World) (xs : List (List Int)) : Prop :=
 ∀ (W : World) (u : Value) (k : Nat),Below w.heap.size w W -> k < xs.length -> IntsAt W u (xs.getD k []) -> Calls Try.prog g (#[u] ++ lb) W fun e w' => e = .returned (.bool (p (xs.getD k []))) /\ Below W.heap.size W w'
theorem any_false_ofR {p : List Int -> Bool} {xs : List (List Int)} (h : ∀ j,j < xs.length -> p (xs.getD j []) = false) : xs.any p = false := by
 rw [List.any_eq_false]
 intro x hx
 obtain ⟨c,hc,rfl⟩ := List.mem_iff_getElem.1 hx
 have := h c hc
 rw [List.getD_eq_getElem?_getD,List.getElem?_eq_getElem hc] at this
 simpa using this
theorem any_true_ofR {p : List Int -> Bool} {xs : List (List Int)} {k : Nat} (hk : k < xs.length) (h : p (xs.getD k []) = true) : xs.any p = true := by
 rw [List.any_eq_true]
 rw [List.getD_eq_getElem?_getD,List.getElem?_eq_getElem hk] at h
 exact ⟨_,List.getElem_mem hk,h⟩
section
variable (g : Nat) (lb : Array Value) (p : List Int -> Bool) (w : World) (eg : ∀ args w,(callFunc g args).run Try.prog w = .ok (.enter g args) w) (v : Value) (xs : List (List Int)) (h : Tab w v xs) (hp : PredB g lb p w xs)
include eg hp h
end
section
variable (g : Nat) (lb : Array Value) (p : List Int -> Bool) (w : World) (eg : ∀ args w,(callFunc g args).run Try.prog w = .ok (.enter g args) w) (v : Value) (xs : List (List Int)) (h : Tab w v xs) (hp : PredB g lb p w xs)
include eg hp h
set_option maxRecDepth 100000 in
set_option maxHeartbeats 400000 in
theorem idx123_any : Calls Try.prog 169 #[v, .func (.func g) #[] lb] w fun e w' => IdxSaid (xs.any p) e /\ Below w.heap.size w w' := by
 obtain ⟨A,c,rfl,hc1,hc2,hc⟩ := h.open_
 have HC := Lib.hid hc
 have HP := Lib.hid hp
 clear hc hp h
 go_enter Try.func169,Try.ntmps169
 go_wp2_with fail
 go_loopw [5,8] (fun _ i wr => ∃ k : Nat,k <= xs.length /\ i = .int .i64 k /\ Hid (∀ j,j < k -> p (xs.getD j []) = false) /\ Hid (Below w.heap.size w wr)) (fun _ i _ => xs.length - (intOf i).toNat)
 case atStart => exact ⟨0,Nat.zero_le _,rfl,Lib.hid fun j hj => absurd hj (by omega),Lib.hid (Below.refl _ _)⟩
 case round =>
   obtain ⟨k,hk,rfl,HZ,HB⟩ := hrel
   have hk0 : (0 : Int) <= (k : Int) := Int.natCast_nonneg _
   by_cases hlt : k < xs.length
   · have hlt' : (k : Int) < (xs.length : Int) := by omega
     obtain ⟨b,o,rfl,hcc⟩ := HC.out (by omega)
     obtain ⟨u,hu,hI⟩ := hcc k hlt
     have hu' := (HB.out.cell (p := ⟨b,o + k,none⟩) (World.block_lt_of_cell? w _ hu)).trans hu
     have hI2 := hI.below HB.out
     have hcall := HP.out wr u k HB.out hlt hI2
     obtain ⟨Ar,cr,rfl, -, -, -⟩ := hI2.open_
     clear hcc hu hI hI2
     have HA := Lib.hid (any_true_ofR (p := p) hlt)
     have HN : Hid (p (xs.getD k []) = false -> ∀ j,j < k + 1 -> p (xs.getD j []) = false) := Lib.hid fun h => all_succ HZ.out h
     generalize hpx : p (xs.getD k []) = pb at *
     have HPX := Lib.hid hpx
     clear hpx
     generalize xs.getD k [] = x at *
     have HCALL := Lib.hid hcall
     clear hcall
     cases pb with
     | true =>
       have HA2 := Lib.hid (HA.out rfl)
       go_wp2_with (go_at_fn g; (refine HCALL.out.mono ?_); rintro e w' ⟨rfl,hb⟩; have HB2 := Lib.hid (HB.out.trans (hb.mono HB.out.size)); clear hb)
       go_ret
       exact ⟨⟨k,rfl,by rw [HA2.out]; simp⟩,HB2.out⟩
     | false =>
       have HN2 := Lib.hid (HN.out rfl)
       go_wp2_with (go_at_fn g; (refine HCALL.out.mono ?_); rintro e w' ⟨rfl,hb⟩; have HB2 := Lib.hid (HB.out.trans (hb.mono HB.out.size)); clear hb)
       go_roundw
       case rel => exact ⟨k + 1,by omega,by go_num,HN2,HB2⟩
       case measure => simp [intOf]; omega
   · obtain rfl : k = xs.length := by omega
     go_wp2_with fail
     go_ret
     exact ⟨⟨-1,rfl,by rw [any_false_ofR HZ.out]; rfl⟩,HB.out⟩
theorem has81_any : Calls Try.prog 105 #[v, .func (.func g) #[] lb] w fun e w' => e = .returned (.bool (xs.any p)) /\ Below w.heap.size w w' := by
 have hcon := Lib.hid (idx123_any g lb p w eg v xs h hp)
 clear hp h
 go_enter Try.func105,Try.ntmps105
 go_wp2_with (go_at_call 169; (refine hcon.out.mono ?_); rintro e w' ⟨⟨r,rfl,hr⟩,hb⟩; have HR := Lib.hid hr; have HB := Lib.hid hb; clear hr hb)
 go_ret
 exact ⟨ret_bool HR.out,HB.out⟩
end
end Go.Proofs
namespace Go.Proofs
open Go.RowKit Go.Shelf Go.Proofs.Ct Go.Maps
theorem presE_good {g : Int} {rels : List W} (h : presE g rels = 0) : ∃ gn : Nat,g = gn /\ 1 <= gn /\ gn <= 16 /\ rels.length <= 100 /\ ∀ j,j < rels.length -> LetsOk gn (rels.getD j []) /\ (rels.getD j []).length <= 4000 := by
 unfold presE at h
 by_cases h1 : g < 1 \/ 16 < g
 · rw [if_pos h1] at h; omega
 · rw [if_neg h1] at h
   by_cases h2 : 100 < rels.length
   · rw [if_pos h2] at h; omega
   · rw [if_neg h2] at h
     have hz : ∀ j,j < rels.length -> presBad g.toNat rels j = 0 := by
       cases hf : first (fun k => decide (presBad g.toNat rels k ≠ 0)) rels.length with
       | none => intro j hj; simpa using first_none' hf j hj
       | some k =>
         rw [hf] at h
         have h3 := (first_some' hf).2.1
         simp at h3
         exact absurd h h3
     refine ⟨g.toNat,by omega,by omega,by omega,by omega,fun j hj => ?_⟩
     have hb := hz j hj
     unfold presBad at hb
     by_cases h3 : 4000 < sumTo rels (j + 1)
     · rw [if_pos h3] at hb; omega
     · rw [if_neg h3] at hb
       refine ⟨letsOk_of ?_, ?_⟩
       · cases hx : (rels.getD j []).any (letBad g.toNat) with
         | false => rfl
         | true => rw [hx] at hb; simp at hb
       · rw [sumTo_succ] at h3; omega
theorem subs_good {g : Nat} {sub : List W} (h : (sub.any fun w => w.any (letBad g)) = false) : ∀ j,j < sub.length -> LetsOk g (sub.getD j []) := fun j hj => letsOk_of (by
 rw [List.any_eq_false] at h
 have := h (sub.getD j []) (by rw [List.getD_eq_getElem?_getD,List.getElem?_eq_getElem hj]; exact List.getElem_mem hj)
 exact Bool.eq_false_iff.2 this)
theorem load40 {w : World} {b : Nat} {v0 v1 : Value} (hc : w.heap[b]? = some (.cells #[v0,v1] 40 (0,0))) : (Instr.loadAt 40 (.pointer (some ⟨b,0,none⟩))).run Try.prog w = .ok (.agg #[v0,v1]) w := by
 have hr : w.rangeAt b 0 [v0,v1] := fun j v hj => by rw [cell_of_row _ _ _ _ _ _ hc,Nat.zero_add]; simpa using hj
 exact run_loadAt_mid (P := Try.prog) w b 0 40 [v0,v1] _ hr Try.underlying40 rfl (by kernel_rfl)
end Go.Proofs
namespace Go.Proofs
open Go.RowKit Go.Shelf Go.Proofs.Ct Go.Maps
theorem LAt.cells {α : Type} {R : World -> Value -> α -> Prop} {d : α} {w : World} {A : Option Addr} {n c : Nat} {xs : List α} (h : LAt R d w (.slice A n c) xs) : 0 < xs.length -> ∃ b off,A = some ⟨b,off,none⟩ /\ ∀ k,k < xs.length -> ∃ u,w.cell? ⟨b,off + k,none⟩ = some u /\ R w u (xs.getD k d) := by
 obtain ⟨A',c',e, -, -,h3⟩ := h.open_
 cases e
 exact h3
end Go.Proofs
namespace Go.Proofs
open Go.RowKit Go.Shelf Go.Proofs.Ct Go.Maps
def zero99 : Array Value := #[.int .i64 0, .slice none 0 0, .slice none 0 0, .slice none 0 0, .int .i64 0]
section
variable {o : Oper} {a : Act} {w w' : World} {n : Nat} {v : Value}
end
def XE (w : World) (b : Nat) (x : List Int) : Prop := w.heap[b]? = some (.cells (ints x).toArray 3 (0,0))
end Go.Proofs
namespace Go.Proofs
open Go.RowKit Go.Shelf Go.Proofs.Ct Go.Maps
structure RowsSt (G : Int) (vt vr : Value) (F : Nat -> Prop) (w1 W : World) (vn : Value) (n : Int) (rows : List (List Int)) : Prop where
 st : OutSt 24 F w1 W vn rows
 box : W.heap[w1.heap.size]? = some (.cells #[.int .i64 G,vt,vr,vn, .int .i64 n] 106 (0,0))
section
variable {G : Int} {vt vr : Value} {F : Nat -> Prop} {w1 W : World} {vn : Value} {n : Int} {rows : List (List Int)}
end
structure SysR (w : World) (vt vr vn : Value) (t : Tb) (R N : List (List Int)) : Prop where
 tab : Tab w vt t
 reps : Tab w vr R
 nums : Tab w vn N
end Go.Proofs
namespace Go.Proofs
open Go.RowKit Go.Shelf Go.Proofs.Ct Go.Maps
def ListSt (w0 wr : World) (so : Value) (X : List Int) : Prop := OwnI w0.heap.size wr so X /\ Below w0.heap.size w0 wr
end Go.Proofs
namespace Go.Proofs
open Go.RowKit Go.Shelf Go.Proofs.Ct Go.Maps
def zero40 : Array Value := #[.int .i64 0, .slice none 0 0]
theorem alloc40 (w : World) : (Instr.alloc 40 true (.tuple #[])).run Try.prog w = .ok (.pointer (some ⟨w.heap.size,0,none⟩)) (w.alloc (.cells zero40 40)) := by kernel_rfl
theorem info40s : (Try.prog.info? 40).map (·.size) = some 2 := by kernel_rfl
theorem one40 (A : Option Addr) (n a : Nat) (x : Int) : (#[Value.int .i64 x, .slice A n a] : Array Value).all (·.oneCell') = true := by simp [Value.oneCell']
section
variable {o : Oper} {a : Act} {w w' : World} {n : Nat} {v : Value}
theorem r_store40 (x y : Operand) (ho : o.op = .store 40 x y) (g : Nat) (old c' : Array Value) (hx : a.eval x = .pointer (some ⟨g,0,none⟩)) (hy : a.eval y = .agg c') (hg : w.heap[g]? = some (.cells old 40 (0,0)))
   (hi : c'.size = 2) (hoo : old.size = 2) (h1 : c'.all (·.oneCell') = true) : (execOp a.eval o).run Try.prog w = .ok .skip (w.setRow g c') := by
 unfold execOp
 simp only [ho,hx,hy,Instr.storeAt,Instr.sureAddr,Sem.run_bind,Sem.run_pure,Result.andThen_ok,run_storeVar_row w g 40 40 old c' hg (by rw [hi]; exact info40s) (by rw [hi,hoo]) h1]
theorem r_alloc40 (ho : o.op = .alloc 40) : (execOp a.eval o).run Try.prog w = .ok (.value (.pointer (some ⟨w.heap.size,0,none⟩))) (w.alloc (.cells zero40 40)) := by
 have hb := alloc40 w
 unfold execOp
 simp only [ho,Sem.run_bind,hb,Result.andThen_ok]
 rfl
end
theorem results_40_tmp {fn : Func} {p q : Tmp} (h : fn.results = #[.cell p 40, .tmp q]) (tmps : Array Value) (w : World) (g : Nat) (cs : Array Value) (u : Value)
   (hp : tmps.getD p undef = .pointer (some ⟨g,0,none⟩)) (hq : tmps.getD q undef = u) (hg : w.heap[g]? = some (.cells cs 40 (0,0))) (hs : cs.size = 2) :
   (results fn tmps).run Try.prog w = .ok (.tuple #[.agg cs,u]) w := by
 have hp' : tmps[p]?.getD undef = .pointer (some ⟨g,0,none⟩) := by simpa using hp
 have hq' : tmps[q]?.getD undef = u := by simpa using hq
 simp [results,h,hp',hq',asAddr,run_loadVar_row w g 40 40 cs (0,0) _ hg Try.underlying40 rfl (by rw [hs]; exact info40s)]
structure PrSt (F : Nat -> Prop) (w0 : World) (m : Int) (wr : World) (A : Option Addr) (c : Nat) (acc : List W) : Prop where
 out : OutSt 25 F w0 wr (.slice A acc.length c) acc
 box : wr.heap[w0.heap.size]? = some (.cells #[.int .i64 m, .slice A acc.length c] 40 (0,0))
end Go.Proofs
namespace Go.Proofs
open Go.RowKit Go.Shelf Go.Proofs.Ct Go.Maps
theorem below_setRow {B : Nat} {w w1 : World} (h : Below B w w1) {g : Nat} (hg : B <= g) (cs : Array Value) : Below B w (w1.setRow g cs) :=
 h.trans ⟨rfl,rfl,rfl,by rw [World.setRow]; simp,fun k hk => setRow_other _ _ k _ (by omega)⟩
end Go.Proofs
namespace Go.Proofs
open Go.RowKit Go.Shelf Go.Proofs.Ct Go.Maps
theorem ints_lit (w : World) (xs : List Int) (hf : Fits xs) (n : Nat) (hn : xs.length = n) (hm : n <= 1000) : IntsAt (w.alloc (.cells (ints xs).toArray 3)) (.slice (some ⟨w.heap.size,0,none⟩) n n) xs := by
 subst hn
 refine ⟨⟨_, xs.length, xs.length, rfl, by simp [ints], Nat.le_refl _, by have : xs.length <= 9223372036854775807 := by omega
                                                                          simpa [maxLen] using this,fun _ => ⟨w.heap.size,0,rfl,fun j u hu => ?_⟩⟩,hf⟩
 rw [cell_of_row _ _ _ _ _ _ (heap_alloc_new w _),Nat.zero_add]
 simpa using hu
theorem tab_three (w : World) (u v z : Value) (x y q : List Int) (hu : IntsAt w u x) (hv : IntsAt w v y) (hz : IntsAt w z q) {e : TypeId} : Tab (w.alloc (.cells #[u,v,z] e)) (.slice (some ⟨w.heap.size,0,none⟩) 3 3) [x,y,q] := by
 have hb : Below w.heap.size w (w.alloc (.cells #[u,v,z] e)) := (Below.refl _ _).alloc (Nat.le_refl _) _
 refine ⟨[u,v,z],⟨_,3,3,rfl,rfl,Nat.le_refl _,by simp [maxLen],fun _ => ⟨w.heap.size,0,rfl,fun j a ha => ?_⟩⟩,rfl,fun i hi => ?_⟩
 · rw [cell_of_row _ _ _ _ _ _ (heap_alloc_new w _),Nat.zero_add]
   simpa using ha
 · have : i = 0 \/ i = 1 \/ i = 2 := by simp at hi; omega
   rcases this with rfl | rfl | rfl
   · exact ⟨u,rfl,hu.below hb⟩
   · exact ⟨v,rfl,hv.below hb⟩
   · exact ⟨z,rfl,hz.below hb⟩
end Go.Proofs
namespace Go.Proofs
open Go.RowKit Go.Shelf Go.Proofs.Ct Go.Maps
structure SameM (a0 : Act) (dm : Nat -> Nat) (N : Nat) (a : Act) : Prop where
 size : a.tmps.size = a0.tmps.size
 defers : a.defers = a0.defers
 out : ∀ t,(∀ i,i < N -> dm i ≠ t) -> a.tmps.getD t undef = a0.tmps.getD t undef
structure Tailed1 (ops : Array Oper) (N : Nat) : Prop where
 size : ops.size = N + 1
 lex : ∀ (i : Nat) (o : Oper),ops[i]? = some o -> ∀ e ∈ o.after.toList,e.on < i
 succ : ∀ i,i < N -> ∃ (j : Nat) (o : Oper),i < j /\ j <= N /\ ops[j]? = some o /\ ∃ e ∈ o.after.toList,e.on = i /\ Region.binds .any e = true
section
variable {F : Fence} {n : Nat} {P : Program} {ops : Array Oper} {Q : Exit -> Act -> World -> Prop}
end
section
variable {n : Nat} {ops : Array Oper} {Q : Exit -> Act -> World -> Prop} {i : Nat} {o : Oper} {K : Act -> World -> Prop} {a : Act} {w : World}
end
section
variable {o : Oper} {a : Act} {w w' : World} {n : Nat} {next : Act -> World -> Prop} {Q : Exit -> Act -> World -> Prop} {v : Value}
theorem wpW_val (hrun : (execOp a.eval o).run Try.prog w = .ok (.value v) w') (h : next (a.put o.dst v) w') : o.wpIn Fence.wide n Try.prog a w next Q :=
 ⟨fun _ _ => trivial,by rw [Fence.wide_round,Oper.semAt_none,hrun]; exact h⟩
theorem wpW_call {f : FuncId} {args : Array Value} {R : Value -> World -> Prop} (hrun : (execOp a.eval o).run Try.prog w = .ok (.enter f args) w')
   (hc : Calls Try.prog f args w' fun e w'' => ∃ v,e = .returned v /\ R v w'') (h : ∀ v w'',R v w'' -> next (a.put o.dst v) w'') : o.wpIn Fence.wide n Try.prog a w next Q :=
 ⟨fun _ _ => trivial,by
   rw [Fence.wide_round,Oper.semAt_none,hrun]
   refine ⟨fun hh => by simp [Fence.wide] at hh,callsIn_wide.2 (hc.mono ?_)⟩
   rintro e w'' ⟨v,rfl,hR⟩
   exact h v w'' hR⟩
end
end Go.Proofs
namespace Go.Proofs
open Go.RowKit Go.Shelf Go.Proofs.Ct Go.Maps
structure Part (a0 : Act) (dm : Nat -> Option Tmp) (N : Nat) (ls : Nat -> Bool) (a : Act) : Prop where
 size : a.tmps.size = a0.tmps.size
 defers : a.defers = a0.defers
 out : ∀ t,(∀ i,i < N -> ls i = true -> dm i ≠ some t) -> a.tmps.getD t undef = a0.tmps.getD t undef
theorem Part.put {a0 a : Act} {dm : Nat -> Option Tmp} {N i : Nat} {ls : Nat -> Bool} (h : Part a0 dm N ls a) (hi : i < N) (v : Value) : Part a0 dm N (fun j => if i = j then true else ls j) (a.put (dm i) v) := by
 refine ⟨?_, ?_,fun t ht => ?_⟩
 · cases hd : dm i with
   | none => exact h.size
   | some t => simpa [Act.put] using h.size
 · cases hd : dm i with
   | none => exact h.defers
   | some t => exact h.defers
 · have h1 : ∀ j,j < N -> ls j = true -> dm j ≠ some t := fun j hj hl => ht j hj (by simp [hl])
   have h2 := ht i hi (by rw [if_pos rfl])
   rw [<- h.out t h1]
   cases hd : dm i with
   | none => rfl
   | some t' => exact put_getD_ne _ _ _ _ (fun e => h2 (by rw [hd,e]))
def slotv (a : Act) : Option Tmp -> Value
 | some t => a.tmps.getD t undef
 | none => undef
def lexB (ops : Array Oper) : Bool := (List.range ops.size).all fun i => match ops[i]? with | some o => o.after.toList.all fun e => decide (e.on < i) || !Region.binds .any e | none => true
theorem lex_of {ops : Array Oper} (h : lexB ops = true) : ∀ (i : Nat) (o : Oper),ops[i]? = some o -> ∀ e ∈ o.after.toList,Region.binds .any e = true -> e.on < i := fun i o ho e he hb => by
 unfold lexB at h
 rw [List.all_eq_true] at h
 have hi : i < ops.size := (Array.getElem?_eq_some_iff.1 ho).1
 have := h i (by simpa using hi)
 rw [ho] at this
 rw [List.all_eq_true] at this
 have h2 := this e he
 rw [hb] at h2
 simpa using h2
section
variable {F : Fence} {n : Nat} {P : Program} {ops : Array Oper} {Q : Exit -> Act -> World -> Prop}
theorem wpIn_region_all {id : Nat} {a0 : Act} {w : World} (hm : P.follows .mixedOrders = true) (N : Nat) (hN : ops.size = N) (dm : Nat -> Option Tmp) (hlex : ∀ (i : Nat) (o : Oper),ops[i]? = some o -> ∀ e ∈ o.after.toList,Region.binds .any e = true -> e.on < i)
   (S : (Nat -> Bool) -> World -> Prop) (Φ : Nat -> Value -> World -> Prop) (G : Nat -> World -> World -> Prop)
   (hdm : ∀ i j t,i < N -> j < N -> dm i = some t -> dm j = some t -> i = j)
   (hΦ : ∀ i j v w w',i < N -> j < N -> i ≠ j -> G i w w' -> Φ j v w -> Φ j v w')
   (hsz : ∀ i t,i < N -> dm i = some t -> t < a0.tmps.size) (h0 : S (fun _ => false) w.drew)
   (hop : ∀ (ls : Nat -> Bool) (i : Nat) (o : Oper) (a : Act) (w : World),i < N -> ops[i]? = some o -> S ls w -> ls i = false -> (∀ (j : Nat) (oj : Oper),ops[j]? = some oj -> ls j = true -> ∀ e ∈ oj.after.toList,Region.binds .any e = true -> ls e.on = true) -> Part a0 dm N ls a ->
     (∀ e ∈ o.after.toList,Region.binds .any e = true -> ls e.on = true /\ Φ e.on (slotv a (dm e.on)) w) ->
     wpOpIn F n P ops Q i (fun a' w' => ∃ v,a' = a.put (dm i) v /\ S (fun j => if i = j then true else ls j) w' /\ G i w w' /\ (dm i = none -> v = undef) /\ Φ i v w') a w)
   (hend : ∀ (ls : Nat -> Bool) (a : Act) (w : World),(∀ i,i < N -> ls i = true) -> S ls w -> Part a0 dm N ls a -> (∀ i,i < N -> Φ i (slotv a (dm i)) w) -> Q .normal a w) :
   (Code.region id ops true).wpIn F n P Q a0 w := by
 subst hN
 refine wpIn_region_any hm ?_
 refine wpAnyIn_inv (fun listed a w => Closed ops listed /\ S (fun j => listed.getD j false) w /\ Part a0 dm ops.size (fun j => listed.getD j false) a /\ ∀ i,i < ops.size -> listed.getD i false = true -> Φ i (slotv a (dm i)) w) ?_ ?_ ops.size _ a0 _ (by simp) ?_ ⟨fun i o ho h => ?_, ?_,⟨rfl,rfl,fun _ _ => rfl⟩,fun i hi h => ?_⟩
 · rintro listed a w i hls ⟨hcl,hS,hP,hsl⟩ hi
   obtain ⟨h1,h2,o,ho,hpre⟩ := ready_mem hi
   rw [getD_true_false (by omega)] at h2
   have hsetD : ∀ j,(listed.setIfInBounds i true).getD j false = if i = j then true else listed.getD j false := fun j => getD_set_listed (by omega)
   have hcl' : Closed ops (listed.setIfInBounds i true) := fun j oj hoj hl e he hb => by
     rw [hsetD] at hl ⊢
     by_cases eij : i = j
     · subst eij
       rw [ho] at hoj; cases hoj
       have := hpre e he hb
       split
       · rfl
       · exact this
     · rw [if_neg eij] at hl
       have := hcl j oj hoj hl e he hb
       split
       · rfl
       · exact this
   have hwp := hop _ i o a w h1 ho hS h2 (fun j oj hoj hl => hcl j oj hoj hl) hP (fun e he hb => ⟨hpre e he hb,hsl e.on (by have := hlex i o ho e he hb; omega) (hpre e he hb)⟩)
   refine wpOpIn_mono (fun a' w' h => ?_) hwp
   obtain ⟨v,rfl,hS',hG,hvn,hv⟩ := h
   rw [show (fun j => if i = j then true else listed.getD j false) = (fun j => (listed.setIfInBounds i true).getD j false) from (funext hsetD).symm] at hS'
   have hP' := hP.put h1 v
   rw [show (fun j => if i = j then true else listed.getD j false) = (fun j => (listed.setIfInBounds i true).getD j false) from (funext hsetD).symm] at hP'
   refine ⟨hcl',hS',hP',fun j hj hl => ?_⟩
   by_cases e : i = j
   · subst e
     have : slotv (a.put (dm i) v) (dm i) = v := by
       cases hdi : dm i with
       | none => rw [hvn hdi]; rfl
       | some t => exact put_getD_same _ _ _ (by rw [hP.size]; exact hsz i t h1 hdi)
     rw [this]
     exact hv
   · rw [hsetD,if_neg e] at hl
     have := hΦ i j _ _ _ h1 hj e hG (hsl j hj hl)
     have hv' : slotv (a.put (dm i) v) (dm j) = slotv a (dm j) := by
       cases hdj : dm j with
       | none => rfl
       | some t =>
         cases hdi : dm i with
         | none => rfl
         | some t' => exact put_getD_ne _ _ _ _ (fun e' => e (hdm i j t h1 hj (by rw [hdi,e']) hdj))
     rw [hv']
     exact this
 · rintro listed a w hls ⟨hcl,hS,hP,hsl⟩ hr
   have hready : ∀ i,i < ops.size -> listed.getD i false = true := by
     intro i
     induction i using Nat.strongRecOn with
     | _ i ih =>
       intro hi
       rcases hl : listed.getD i false with _ | _
       · have hmem : i ∈ Region.ready .any ops listed := by
           simp only [Region.ready,List.mem_filter,List.mem_range,Bool.and_eq_true,Bool.not_eq_true']
           refine ⟨hi,by rw [getD_true_false (by omega)]; exact hl, ?_⟩
           rw [Array.getElem?_eq_getElem hi]
           simp only [Option.map_some,Option.getD_some]
           rw [Array.all_eq_true_iff_forall_mem]
           intro e he
           by_cases hb : Region.binds .any e = true
           · have hlt := hlex i _ (Array.getElem?_eq_getElem hi) e (by simpa using he) hb
             simp [ih e.on hlt (by omega)]
           · simp [hb]
         rw [hr] at hmem; cases hmem
       · rfl
   exact hend _ a w hready hS hP (fun i hi => hsl i hi (hready i hi))
 · simp
 · have : (Array.replicate ops.size false).getD i false = false := by
     simp only [Array.getD_eq_getD_getElem?,Array.getElem?_replicate]; split <;> rfl
   rw [this] at h; cases h
 · rw [show (fun j => (Array.replicate ops.size false).getD j false) = (fun _ => false) from funext fun j => by simp only [Array.getD_eq_getD_getElem?,Array.getElem?_replicate]; split <;> rfl]
   exact h0
 · have : (Array.replicate ops.size false).getD i false = false := by
     simp only [Array.getD_eq_getD_getElem?,Array.getElem?_replicate]; split <;> rfl
   rw [this] at h; cases h
end
theorem not_yet {ops : Array Oper} {ls : Nat -> Bool} (hcl : ∀ (j : Nat) (oj : Oper),ops[j]? = some oj -> ls j = true -> ∀ e ∈ oj.after.toList,Region.binds .any e = true -> ls e.on = true) (j : Nat) {oj : Oper} (hoj : ops[j]? = some oj) (e : Edge) (he : e ∈ oj.after.toList) (hb : Region.binds .any e = true) (h : ls e.on = false) : ls j = false := by
 cases hj : ls j with
 | false => rfl
 | true => rw [hcl j oj hoj hj e he hb] at h; cases h
theorem dm_out {dm : Nat -> Option Tmp} {N t : Nat} {ls : Nat -> Bool} (h : (List.range N).all (fun i => !(dm i == some t)) = true) : ∀ i,i < N -> ls i = true -> dm i ≠ some t := fun i hi _ e => by
 rw [List.all_eq_true] at h
 have := h i (by simpa using hi)
 rw [e] at this
 simp at this
theorem dm_out1 {dm : Nat -> Option Tmp} {N t k : Nat} {ls : Nat -> Bool} (hk : ls k = false) (h : (List.range N).all (fun i => !(dm i == some t) || i == k) = true) : ∀ i,i < N -> ls i = true -> dm i ≠ some t := fun i hi hl e => by
 rw [List.all_eq_true] at h
 have := h i (by simpa using hi)
 rw [e] at this
 have h2 : i = k := by simpa using this
 rw [h2,hk] at hl
 cases hl
theorem dm_inj {dm : Nat -> Option Tmp} {N : Nat} (h : (List.range N).all (fun i => (List.range N).all fun j => (i == j) || (dm i == none) || !(dm i == dm j)) = true) : ∀ i j t,i < N -> j < N -> dm i = some t -> dm j = some t -> i = j := fun i j t hi hj e1 e2 => by
 rw [List.all_eq_true] at h
 have h1 := h i (by simpa using hi)
 rw [List.all_eq_true] at h1
 have h2 := h1 j (by simpa using hj)
 rw [e1,e2] at h2
 simpa using h2
theorem dm_lt {dm : Nat -> Option Tmp} {N n : Nat} (h : (List.range N).all (fun i => match dm i with | some t => decide (t < n) | none => true) = true) : ∀ i t,i < N -> dm i = some t -> t < n := fun i t hi e => by
 rw [List.all_eq_true] at h
 have := h i (by simpa using hi)
 rw [e] at this
 simpa using this
theorem Part.frame {a0 a : Act} {dm : Nat -> Option Tmp} {N : Nat} {ls : Nat -> Bool} (h : Part a0 dm N ls a) (n : Nat) (hn : a0.tmps.size = n) :
   ∃ vs : Nat -> Value,(∀ t,vs t = a.tmps.getD t undef) /\ a = { tmps := ((List.range n).map fun t => if (List.range N).any (fun i => dm i == some t) then vs t else a0.tmps.toList.getD t undef).toArray,defers := a0.defers } := by
 refine ⟨fun t => a.tmps.getD t undef,fun _ => rfl, ?_⟩
 obtain ⟨t,d⟩ := a
 have hd := h.defers
 have hs := h.size
 have ho := h.out
 simp only at hd hs ho
 subst hd
 congr 1
 apply Array.ext'
 apply List.ext_getElem?
 intro i
 rcases Nat.lt_or_ge i n with hi | hi
 · have hit : i < t.size := by omega
   have hg : t.toList[i]? = some (t.getD i undef) := by simp [Array.getD,hit]
   rw [hg]
   simp only [List.getElem?_map,List.getElem?_range hi,Option.map_some]
   congr 1
   by_cases hx : (List.range N).any (fun q => dm q == some i) = true
   · rw [if_pos hx]
   · rw [if_neg hx]
     rw [ho i (fun j hj _ e => hx ?_)]
     · simp [Array.getD_eq_getD_getElem?,List.getD_eq_getElem?_getD]
     · rw [List.any_eq_true]
       exact ⟨j,by simpa using hj,by simpa using e⟩
 · rw [List.getElem?_eq_none (by simpa using (by omega : t.size <= i)),List.getElem?_eq_none (by simpa using hi)]
end Go.Proofs
namespace Go.Proofs
open Go.RowKit Go.Shelf Go.Proofs.Ct Go.Maps
section
variable {o : Oper} {a : Act} {w w' : World} {n : Nat} {next : Act -> World -> Prop} {Q : Exit -> Act -> World -> Prop} {v : Value}
theorem wpW_skip (hrun : (execOp a.eval o).run Try.prog w = .ok .skip w') (h : next (a.put o.dst undef) w') : o.wpIn Fence.wide n Try.prog a w next Q :=
 ⟨fun _ _ => trivial,by rw [Fence.wide_round,Oper.semAt_none,hrun]; exact h⟩
theorem r_nil (x : Operand) (ad : Addr) (ho : o.op = .nilCheck x) (hx : a.eval x = .pointer (some ad)) : (execOp a.eval o).run Try.prog w = .ok (.value (.pointer (some ad))) w := by
 unfold execOp; simp only [ho,hx]; rfl
theorem agg3 (w : World) : (isAgg 3).run Try.prog w = .ok false w := by kernel_rfl
theorem agg22 (w : World) : (isAgg 22).run Try.prog w = .ok false w := by kernel_rfl
theorem agg24 (w : World) : (isAgg 24).run Try.prog w = .ok false w := by kernel_rfl
theorem r_load1 (T : TypeId) (hT : ∀ w,(isAgg T).run Try.prog w = .ok false w) (x : Operand) (ad : Addr) (ho : o.op = .load T x) (hx : a.eval x = .pointer (some ad)) (hc : w.cell? ad = some v) : (execOp a.eval o).run Try.prog w = .ok (.value v) w := by
 unfold execOp
 simp only [ho,hx,Instr.loadAt,Instr.sureAddr,loadVar,Sem.run_bind,Sem.run_pure,Result.andThen_ok,hT]
 simp [go_sem,hc]
theorem fld116_0 (b : Nat) (w : World) : (Instr.fieldAt 123 (.pointer (some ⟨b,0,none⟩)) 0).run Try.prog w = .ok (.pointer (some ⟨b,0,none⟩)) w := by kernel_rfl
theorem fld116_2 (b : Nat) (w : World) : (Instr.fieldAt 123 (.pointer (some ⟨b,0,none⟩)) 2).run Try.prog w = .ok (.pointer (some ⟨b,2,none⟩)) w := by kernel_rfl
theorem fld116_3 (b : Nat) (w : World) : (Instr.fieldAt 123 (.pointer (some ⟨b,0,none⟩)) 3).run Try.prog w = .ok (.pointer (some ⟨b,3,none⟩)) w := by kernel_rfl
theorem fld116_5 (b : Nat) (w : World) : (Instr.fieldAt 123 (.pointer (some ⟨b,0,none⟩)) 5).run Try.prog w = .ok (.pointer (some ⟨b,5,none⟩)) w := by kernel_rfl
theorem fld116_6 (b : Nat) (w : World) : (Instr.fieldAt 123 (.pointer (some ⟨b,0,none⟩)) 6).run Try.prog w = .ok (.pointer (some ⟨b,6,none⟩)) w := by kernel_rfl
theorem idx_sl {T E : TypeId} (hu : Try.prog.underlying T = some (.slice E)) (hs : ∀ w,(sizeOf E).run Try.prog w = .ok 1 w) (g m c i : Nat) (hi : i < m) (w : World) :
   (Instr.indexAt T (.slice (some ⟨g,0,none⟩) m c) (.int .i64 (i : Int))).run Try.prog w = .ok (.pointer (some ⟨g,i,none⟩)) w := by
 have h1 : (0 : Int) <= (i : Int) /\ (i : Int) < (m : Int) := ⟨by omega,by omega⟩
 have h2 := Addr.add_mid g 0 i
 rw [Nat.zero_add] at h2
 simp [Instr.indexAt,asIntOf,run_underlying hu,hs,h2,hi]
theorem size3 (w : World) : (sizeOf 3).run Try.prog w = .ok 1 w := by kernel_rfl
theorem size24 (w : World) : (sizeOf 24).run Try.prog w = .ok 1 w := by kernel_rfl
theorem r_idx {T : Nat} (x y : Operand) (ad i : Value) (ho : o.op = .indexAddr T x y) (hx : a.eval x = ad) (hy : a.eval y = i) (hf : (Instr.indexAt T ad i).run Try.prog w = .ok v w) : (execOp a.eval o).run Try.prog w = .ok (.value v) w := by
 unfold execOp; simp only [ho,hx,hy,Sem.run_bind,hf,Result.andThen_ok]; rfl
theorem r_store1 (T : TypeId) (x y : Operand) (ad : Addr) (u v : Value) (ho : o.op = .store T x y) (hx : a.eval x = .pointer (some ad)) (hy : a.eval y = v) (_h1 : ad.spot = none) (_hc : w.cell? ad = some u) (_hf : w.frozen? ad = false) (ht : (Instr.storeAt T (.pointer (some ad)) v).run Try.prog w = .ok () (w.setCell ad v)) : (execOp a.eval o).run Try.prog w = .ok .skip (w.setCell ad v) := by
 unfold execOp
 simp only [ho,hx,hy,Sem.run_bind,ht,Result.andThen_ok]
 rfl
theorem st3 (ad : Addr) (x y : Int) (hc : w.cell? ad = some (.int .i64 x)) (hf : w.frozen? ad = false) : (Instr.storeAt 3 (.pointer (some ad)) (.int .i64 y)).run Try.prog w = .ok () (w.setCell ad (.int .i64 y)) := by
 simp [Instr.storeAt,Instr.sureAddr,go_sem,hc,hf]
theorem st24 (ad : Addr) (u : Value) (A : Option Addr) (m c : Nat) (hc : w.cell? ad = some u) (hf : w.frozen? ad = false) : (Instr.storeAt 24 (.pointer (some ad)) (.slice A m c)).run Try.prog w = .ok () (w.setCell ad (.slice A m c)) := by
 simp [Instr.storeAt,Instr.sureAddr,go_sem,hc,hf]
theorem st22 (ad : Addr) (u : Value) (A : Option Addr) (m c : Nat) (hc : w.cell? ad = some u) (hf : w.frozen? ad = false) : (Instr.storeAt 22 (.pointer (some ad)) (.slice A m c)).run Try.prog w = .ok () (w.setCell ad (.slice A m c)) := by
 simp [Instr.storeAt,Instr.sureAddr,go_sem,hc,hf]
end
end Go.Proofs
namespace Go.Proofs
open Go.RowKit Go.Shelf Go.Proofs.Ct Go.Maps
structure BoxP (b wd lim : Nat) (w : World) (s : St) (vr vp vq : Value) : Prop where
 box : w.heap[b]? = some (.cells #[.int .i64 (wd : Int), .int .i64 (lim : Int),vr,vp,vq, .int .i64 s.live, .int .i64 s.most] 123 (0,0))
theorem BoxP.cells {b wd lim : Nat} {w : World} {s : St} {vr vp vq : Value} (h : BoxP b wd lim w s vr vp vq) : w.cell? ⟨b,0,none⟩ = some (.int .i64 (wd : Int)) /\ w.cell? ⟨b,1,none⟩ = some (.int .i64 (lim : Int)) /\ w.cell? ⟨b,2,none⟩ = some vr /\ w.cell? ⟨b,3,none⟩ = some vp /\ w.cell? ⟨b,4,none⟩ = some vq /\ w.cell? ⟨b,5,none⟩ = some (.int .i64 s.live) /\ w.cell? ⟨b,6,none⟩ = some (.int .i64 s.most) := by
 have hc := h.box
 refine ⟨?_, ?_, ?_, ?_, ?_, ?_, ?_⟩ <;> (rw [cell_of_row _ _ _ _ _ _ hc]; rfl)
theorem BoxP.below {b wd lim : Nat} {w w' : World} {s : St} {vr vp vq : Value} (h : BoxP b wd lim w s vr vp vq) (hb : Below w.heap.size w w') : BoxP b wd lim w' s vr vp vq := ⟨(hb.block _ (Array.getElem?_eq_some_iff.1 h.box).1).trans h.box⟩
theorem BoxP.other {b wd lim : Nat} {w : World} {s : St} {vr vp vq : Value} (h : BoxP b wd lim w s vr vp vq) {g : Nat} {T : TypeId} (hg : ∃ C,w.heap[g]? = some (.cells C T (0,0))) (hT : T ≠ 123) (k : Nat) (v : Value) : BoxP b wd lim (w.setCell ⟨g,k,none⟩ v) s vr vp vq :=
 ⟨(Below.heap_setCell w ⟨g,k,none⟩ v b (fun e => by
   obtain ⟨C,hC⟩ := hg
   have e' : b = g := e
   have := h.box
   rw [e',hC] at this
   cases this
   exact hT rfl)).trans h.box⟩
def HeldP (base b wd lim : Nat) (w : World) (s : St) (vr vp vq : Value) (bl cs : Nat -> Nat) (wr : World) : Prop := ∃ P',BoxP b wd lim wr s vr vp vq /\ CoreM base wr s P' vr vp vq bl cs /\ Below base w wr
def StP (base b wd lim : Nat) (w : World) (s : St) : Prop := base <= b /\ ∃ P vr vp vq bl cs,BoxP b wd lim w s vr vp vq /\ CoreM base w s P vr vp vq bl cs
set_option maxRecDepth 100000 in
set_option maxHeartbeats 1000000 in
theorem find156_any (g base b wd lim c : Nat) (w : World) (s : St) (hI : Inv g s) (hS : StP base b wd lim w s) (hc : c < s.t.length) (hn : s.t.length <= 1000000) :
   Calls Try.prog 230 #[.pointer (some ⟨b,0,none⟩), .int .i64 (c : Int)] w fun e w' => e = .returned (.int .i64 (s.rp c : Int)) /\ StP base b wd lim w' s /\ Below base w w' := by
 obtain ⟨hb,P,vr,vp,vq,bl,cs,hB,hC⟩ := hS
 obtain ⟨gp,cp,rfl,hg1,hg2, -, -⟩ := ownI_cell hC.par (by rw [hC.len]; omega)
 have HB := Lib.hid hB
 have HC := Lib.hid hC
 have HI := Lib.hid hI
 have hPl := hC.len
 rw [hPl] at HB HC
 have HBB := Lib.hid hb
 have HBW : Hid (base <= w.heap.size) := Lib.hid (by omega)
 have hbs : b < w.heap.size := (Array.getElem?_eq_some_iff.1 hB.box).1
 have HRC := Lib.hid (hC.root.root c hc)
 obtain ⟨c0,c1,c2,c3,c4,c5,c6⟩ := hB.cells
 rw [hPl] at c3
 have hn0 : (s.t.length : Int) <= 1000000 := by omega
 clear hB hC hI hPl c0 c1 c2 c4 c5 c6
 go_enter Try.func230,Try.ntmps230
 go_wp2_with fail
 go_step3
 go_wp2_with fail
 go_step3
 go_wp2_with fail
 go_loopw [5] (fun i wr => ∃ r : Nat,i = .int .i64 r /\ r < s.t.length /\ Hid (Root P r (s.rp c)) /\ w = wr) (fun i _ => (intOf i).toNat)
 case atStart => exact ⟨c,rfl,hc,HRC,rfl⟩
 case round =>
   obtain ⟨r,rfl,hr,HR,rfl⟩ := hrel
   have hr0 : (0 : Int) <= (r : Int) := Int.natCast_nonneg _
   have hrI : (r : Int) < (s.t.length : Int) := by omega
   obtain ⟨y,hy,hyx,hyr,hyi⟩ := HR.out.parent
   have hck := (ownI_at HC.out.par (k := r) (by rw [HC.out.len]; exact hr)).1
   rw [hy] at hck
   have HYR := Lib.hid hyr
   have HYI := Lib.hid hyi
   clear hy hyr hyi
   by_cases hyx2 : y = r
   · subst hyx2
     have HE : Hid (s.rp c = y) := Lib.hid (HYI.out.1 rfl)
     go_wp2_with fail
     go_loopw [1] (fun i wr => ∃ c' : Nat,i = .int .i64 c' /\ c' < s.t.length /\ Hid (s.rp c' = y) /\ Hid (HeldP base b wd lim w s vr (.slice (some ⟨gp,0,none⟩) s.t.length cp) vq bl cs wr)) (fun i _ => (intOf i).toNat)
     case atStart => exact ⟨c,rfl,hc,HE,Lib.hid ⟨P,HB.out,HC.out,Below.refl _ _⟩⟩
     case round =>
       clear hck c3 HR HYR HYI
       obtain ⟨c',rfl,hc',HR,HW⟩ := hrel
       obtain ⟨P',hB,hC,hbel⟩ := HW.out
       have hc0 : (0 : Int) <= (c' : Int) := Int.natCast_nonneg _
       have hcI : (c' : Int) < (s.t.length : Int) := by omega
       obtain ⟨z,hz,hzx,hzr,hzi⟩ := (hC.root.root c' hc').parent
       obtain ⟨hck,hfk⟩ := ownI_at hC.par (k := c') (by rw [hC.len]; exact hc')
       rw [hz] at hck
       obtain ⟨-, -, -,c3, -, -, -⟩ := hB.cells
       have HBx := Lib.hid hB
       have HCx := Lib.hid hC
       have HBE := Lib.hid hbel
       have HZR := Lib.hid hzr
       have HZI := Lib.hid hzi
       clear hB hC hbel hz hzr hzi HW
       by_cases hzy : z = y
       · subst hzy
         have d2 : ((z : Int) != (z : Int)) = false := by simp
         go_wp2_with fail
         try rw [Exit.noGoto_ret]
         go_ret
         exact ⟨ret_int (by rw [HE.out]),⟨HBB.out,P',vr,_,vq,bl,cs,HBx.out,HCx.out⟩,HBE.out⟩
       · have d2 : ((z : Int) != (y : Int)) = true := by simp; omega
         have hzl : z < c' := by
           rcases Nat.lt_or_ge z c' with h | h
           · exact h
           · have h1 : z = c' := by omega
             have h2 := HZI.out.1 h1
             rw [HR.out] at h2
             omega
         have HZ := Lib.hid hzy
         clear hzy
         go_wp2_with fail
         refine (wpIn_wide (n := 3)).1 ?_
         have HCK : Hid (wr.drew.cell? ⟨gp,c',none⟩ = some (.int .i64 (z : Int))) := Lib.hid hck
         have HFK : Hid (wr.drew.frozen? ⟨gp,c',none⟩ = false) := Lib.hid hfk
         have HC3 : Hid (wr.drew.cell? ⟨b,3,none⟩ = some (.slice (some ⟨gp,0,none⟩) s.t.length cp)) := Lib.hid c3
         refine wpIn_region_all (by kernel_rfl) 16 rfl (fun i => if i < 14 then some (32 + i) else if i = 14 then none else some 1) (lex_of (by kernel_rfl)) (fun ls W => W = bif ls 14 then wr.drew.setCell ⟨gp,c',none⟩ (.int .i64 (y : Int)) else wr.drew)
           (fun i v _ => v = ([.pointer (some ⟨b,0,none⟩), .pointer (some ⟨b,0,none⟩), .pointer (some ⟨b,3,none⟩), .slice (some ⟨gp,0,none⟩) s.t.length cp, .int .i64 (c' : Int), .int .i64 (y : Int), .pointer (some ⟨b,0,none⟩), .pointer (some ⟨b,0,none⟩), .pointer (some ⟨b,3,none⟩), .slice (some ⟨gp,0,none⟩) s.t.length cp, .int .i64 (c' : Int), .pointer (some ⟨gp,c',none⟩), .int .i64 (z : Int), .pointer (some ⟨gp,c',none⟩),undef, .int .i64 (z : Int)] : List Value).getD i undef) (fun _ _ _ => True) (dm_inj (by kernel_rfl)) (fun _ _ _ _ _ _ _ _ _ h => h) (dm_lt (n := 47) (by kernel_rfl)) rfl ?_ ?_
         · intro ls q o a w2 hq ho hS2 hls hcl hP hpre
           have hcases : q = 0 \/ q = 1 \/ q = 2 \/ q = 3 \/ q = 4 \/ q = 5 \/ q = 6 \/ q = 7 \/ q = 8 \/ q = 9 \/ q = 10 \/ q = 11 \/ q = 12 \/ q = 13 \/ q = 14 \/ q = 15 := by
             have : q < 16 := hq
             omega
           rcases hcases with rfl | rfl | rfl | rfl | rfl | rfl | rfl | rfl | rfl | rfl | rfl | rfl | rfl | rfl | rfl | rfl
           · obtain rfl := Option.some.inj ho
             exact wpOpIn_of rfl rfl (wpW_val (r_move (.tmp 0) rfl (hP.out 0 (dm_out (by kernel_rfl)))) ⟨_,rfl,hS2,trivial,(fun h => by simp at h),rfl⟩)
           · obtain rfl := Option.some.inj ho
             exact wpOpIn_of rfl rfl (wpW_val (r_nil (.tmp 32) _ rfl (hpre ⟨0, .data⟩ (by simp) rfl).2) ⟨_,rfl,hS2,trivial,(fun h => by simp at h),rfl⟩)
           · obtain rfl := Option.some.inj ho
             exact wpOpIn_of rfl rfl (wpW_val (r_fld (.tmp 33) _ rfl (hpre ⟨1, .data⟩ (by simp) rfl).2 (fld116_3 b _)) ⟨_,rfl,hS2,trivial,(fun h => by simp at h),rfl⟩)
           · obtain rfl := Option.some.inj ho
             have h14 := not_yet hcl 14 rfl ⟨3, .phase⟩ (by simp) rfl hls
             rw [h14] at hS2
             subst hS2
             exact wpOpIn_of rfl rfl (wpW_val (r_load1 24 agg24 (.tmp 34) ⟨b,3,none⟩ rfl (hpre ⟨2, .data⟩ (by simp) rfl).2 HC3.out) ⟨_,rfl,(by rw [<- h14]; rfl),trivial,(fun h => by simp at h),rfl⟩)
           · obtain rfl := Option.some.inj ho
             have h15 := not_yet hcl 15 rfl ⟨4, .phase⟩ (by simp) rfl hls
             exact wpOpIn_of rfl rfl (wpW_val (r_move (.tmp 1) rfl (hP.out 1 (dm_out1 h15 (by kernel_rfl)))) ⟨_,rfl,hS2,trivial,(fun h => by simp at h),rfl⟩)
           · obtain rfl := Option.some.inj ho
             exact wpOpIn_of rfl rfl (wpW_val (r_move (.tmp 5) rfl (hP.out 5 (dm_out (by kernel_rfl)))) ⟨_,rfl,hS2,trivial,(fun h => by simp at h),rfl⟩)
           · obtain rfl := Option.some.inj ho
             exact wpOpIn_of rfl rfl (wpW_val (r_move (.tmp 0) rfl (hP.out 0 (dm_out (by kernel_rfl)))) ⟨_,rfl,hS2,trivial,(fun h => by simp at h),rfl⟩)
           · obtain rfl := Option.some.inj ho
             exact wpOpIn_of rfl rfl (wpW_val (r_nil (.tmp 38) _ rfl (hpre ⟨6, .data⟩ (by simp) rfl).2) ⟨_,rfl,hS2,trivial,(fun h => by simp at h),rfl⟩)
           · obtain rfl := Option.some.inj ho
             exact wpOpIn_of rfl rfl (wpW_val (r_fld (.tmp 39) _ rfl (hpre ⟨7, .data⟩ (by simp) rfl).2 (fld116_3 b _)) ⟨_,rfl,hS2,trivial,(fun h => by simp at h),rfl⟩)
           · obtain rfl := Option.some.inj ho
             have h14 := not_yet hcl 14 rfl ⟨9, .phase⟩ (by simp) rfl hls
             rw [h14] at hS2
             subst hS2
             exact wpOpIn_of rfl rfl (wpW_val (r_load1 24 agg24 (.tmp 40) ⟨b,3,none⟩ rfl (hpre ⟨8, .data⟩ (by simp) rfl).2 HC3.out) ⟨_,rfl,(by rw [<- h14]; rfl),trivial,(fun h => by simp at h),rfl⟩)
           · obtain rfl := Option.some.inj ho
             have h15 := not_yet hcl 15 rfl ⟨10, .phase⟩ (by simp) rfl hls
             exact wpOpIn_of rfl rfl (wpW_val (r_move (.tmp 1) rfl (hP.out 1 (dm_out1 h15 (by kernel_rfl)))) ⟨_,rfl,hS2,trivial,(fun h => by simp at h),rfl⟩)
           · obtain rfl := Option.some.inj ho
             exact wpOpIn_of rfl rfl (wpW_val (r_idx (.tmp 41) (.tmp 42) _ _ rfl (hpre ⟨9, .data⟩ (by simp) rfl).2 (hpre ⟨10, .data⟩ (by simp) rfl).2 (idx_sl Try.underlying24 size3 gp _ cp c' hc' _)) ⟨_,rfl,hS2,trivial,(fun h => by simp at h),rfl⟩)
           · obtain rfl := Option.some.inj ho
             have h14 := not_yet hcl 14 rfl ⟨12, .phase⟩ (by simp) rfl hls
             rw [h14] at hS2
             subst hS2
             exact wpOpIn_of rfl rfl (wpW_val (r_load1 3 agg3 (.tmp 43) ⟨gp,c',none⟩ rfl (hpre ⟨11, .data⟩ (by simp) rfl).2 HCK.out) ⟨_,rfl,(by rw [<- h14]; rfl),trivial,(fun h => by simp at h),rfl⟩)
           · obtain rfl := Option.some.inj ho
             exact wpOpIn_of rfl rfl (wpW_val (r_idx (.tmp 35) (.tmp 36) _ _ rfl (hpre ⟨3, .data⟩ (by simp) rfl).2 (hpre ⟨4, .data⟩ (by simp) rfl).2 (idx_sl Try.underlying24 size3 gp _ cp c' hc' _)) ⟨_,rfl,hS2,trivial,(fun h => by simp at h),rfl⟩)
           · obtain rfl := Option.some.inj ho
             rw [hls] at hS2
             subst hS2
             exact wpOpIn_of rfl rfl (wpW_skip (r_store1 3 (.tmp 45) (.tmp 37) _ _ _ rfl (hpre ⟨13, .data⟩ (by simp) rfl).2 (hpre ⟨5, .data⟩ (by simp) rfl).2 rfl HCK.out HFK.out (st3 _ _ _ HCK.out HFK.out)) ⟨undef,rfl,rfl,trivial,fun _ => rfl,rfl⟩)
           · obtain rfl := Option.some.inj ho
             exact wpOpIn_of rfl rfl (wpW_val (r_assign (.tmp 44) rfl (hpre ⟨12, .data⟩ (by simp) rfl).2) ⟨_,rfl,hS2,trivial,(fun h => by simp at h),rfl⟩)
         · intro ls a w2 hall hS2 hP hsl
           have h14 : ls 14 = true := hall 14 (by decide)
           rw [h14] at hS2
           obtain ⟨vs,hvs,hfr⟩ := hP.frame 47 rfl
           have h1 : vs 1 = .int .i64 (z : Int) := (hvs 1).trans (hsl 15 (by decide))
           have hd := (Below.refl wr.heap.size wr).drew
           have hC2 := (HCx.out.below hd).setP (g := gp) rfl (x := c') (by rw [HCx.out.len]; exact hc') (y : Int) (s' := s) rfl rfl (by rw [<- HR.out]; exact HCx.out.root.short hc')
           have hB2 := (HBx.out.below hd).other (owns_block (owns_below HCx.out.par hd) gp rfl).2 (by decide) c' (.int .i64 (y : Int))
           have hbel2 : Below base w (wr.drew.setCell ⟨gp,c',none⟩ (.int .i64 (y : Int))) := (HBE.out.trans (hd.mono (Nat.le_trans HBW.out HBE.out.size))).setCell (by exact hg1) _
           have HW2 : Hid (HeldP base b wd lim w s vr (.slice (some ⟨gp,0,none⟩) s.t.length cp) vq bl cs (wr.drew.setCell ⟨gp,c',none⟩ (.int .i64 (y : Int)))) := Lib.hid ⟨_,hB2,hC2,hbel2⟩
           have HZ2 : Hid (s.rp z = y) := Lib.hid (by
             have h1 := HCx.out.root.root z (by omega)
             rw [h1.unique HZR.out,HR.out])
           clear hsl hP hall h14 hvs hd hC2 hB2 hbel2
           subst hfr
           subst hS2
           dsimp only
           simp only [List.range,List.range.loop,List.map_cons,List.map_nil,List.any_cons,List.any_nil,Nat.reduceAdd,Nat.reduceBEq,Nat.reduceLT,Nat.reduceEqDiff,Option.some_beq_some,Bool.or_false,Bool.or_true,if_true,if_false,List.getD_cons_zero,List.getD_cons_succ,h1,cond_true]
           generalize hw2 : wr.drew.setCell ⟨gp,c',none⟩ (.int .i64 (y : Int)) = w9 at *
           clear hw2
           go_wp2_with fail
           go_roundw
           case rel => first | exact ⟨z,rfl,by omega,HZ2,HW2⟩ | exact ⟨z,rfl,by omega,HZ2⟩
           case measure => simp [intOf]; omega
   · have d1 : ((y : Int) == (r : Int)) = false := by rw [beq_eq_false_iff_ne]; omega
     have hyl : y < r := by omega
     clear hyx2
     go_wp2_with fail
     go_roundw
     case rel => exact ⟨y,rfl,by omega,HYR,(by first | trivial | rfl)⟩
     case measure => simp [intOf]; omega
end Go.Proofs
namespace Go.Proofs
open Go.RowKit Go.Shelf Go.Proofs.Ct Go.Maps
theorem box_set {w : World} {b : Nat} {C : Array Value} {T : TypeId} (hb : w.heap[b]? = some (.cells C T (0,0))) (k : Nat) (v : Value) : (w.setCell ⟨b,k,none⟩ v).heap[b]? = some (.cells (C.setIfInBounds k v) T (0,0)) := by
 simp [World.setCell,Array.getElem?_modify,hb]
section
variable {b wd lim : Nat} {w : World} {s s' : St} {vr vp vq : Value}
theorem BoxP.upd2 (h : BoxP b wd lim w s vr vp vq) (v : Value) (hl : s'.live = s.live) (hm : s'.most = s.most) : BoxP b wd lim (w.setCell ⟨b,2,none⟩ v) s' v vp vq := ⟨by rw [box_set h.box]; simp [hl,hm]⟩
theorem BoxP.upd3 (h : BoxP b wd lim w s vr vp vq) (v : Value) (hl : s'.live = s.live) (hm : s'.most = s.most) : BoxP b wd lim (w.setCell ⟨b,3,none⟩ v) s' vr v vq := ⟨by rw [box_set h.box]; simp [hl,hm]⟩
theorem BoxP.upd4 (h : BoxP b wd lim w s vr vp vq) (v : Value) (hl : s'.live = s.live) (hm : s'.most = s.most) : BoxP b wd lim (w.setCell ⟨b,4,none⟩ v) s' vr vp v := ⟨by rw [box_set h.box]; simp [hl,hm]⟩
theorem BoxP.upd5 (h : BoxP b wd lim w s vr vp vq) {z : Int} (hl : s'.live = z) (hm : s'.most = s.most) : BoxP b wd lim (w.setCell ⟨b,5,none⟩ (.int .i64 z)) s' vr vp vq := ⟨by rw [box_set h.box]; simp [hl,hm]⟩
theorem BoxP.upd6 (h : BoxP b wd lim w s vr vp vq) {z : Int} (hl : s'.live = s.live) (hm : s'.most = z) : BoxP b wd lim (w.setCell ⟨b,6,none⟩ (.int .i64 z)) s' vr vp vq := ⟨by rw [box_set h.box]; simp [hl,hm]⟩
theorem BoxP.frozen (h : BoxP b wd lim w s vr vp vq) (k : Nat) : w.frozen? ⟨b,k,none⟩ = false := by simp [World.frozen?,h.box]
theorem BoxP.lt (h : BoxP b wd lim w s vr vp vq) : b < w.heap.size := (Array.getElem?_eq_some_iff.1 h.box).1
theorem BoxP.of (h : BoxP b wd lim w s vr vp vq) (hl : s'.live = s.live) (hm : s'.most = s.most) : BoxP b wd lim w s' vr vp vq := ⟨by rw [hl,hm]; exact h.box⟩
end
theorem alive127_any (_g base b wd lim r : Nat) (w : World) (s : St) (hS : StP base b wd lim w s) (hr : r < s.t.length) :
   Calls Try.prog 173 #[.pointer (some ⟨b,0,none⟩), .int .i64 (r : Int)] w fun e w' => e = .returned (.bool (decide (s.rp r = r))) /\ w' = w := by
 obtain ⟨hb,P,vr,vp,vq,bl,cs,hB,hC⟩ := hS
 obtain ⟨gp,cp,rfl, -, -,hcc, -⟩ := ownI_cell hC.par (by rw [hC.len]; omega)
 have hck := hcc r (by rw [hC.len]; exact hr)
 obtain ⟨y,hy, -, -,hyi⟩ := (hC.root.root r hr).parent
 rw [hy] at hck
 obtain ⟨-, -, -,c3, -, -, -⟩ := hB.cells
 rw [hC.len] at c3
 have hr0 : (0 : Int) <= (r : Int) := Int.natCast_nonneg _
 have hrI : (r : Int) < (s.t.length : Int) := by omega
 have HYI := Lib.hid hyi
 clear hB hC hcc hy hyi
 by_cases h : y = r
 · have HD : Hid (decide (s.rp r = r) = true) := Lib.hid (decide_eq_true (HYI.out.1 h))
   have d1 : ((y : Int) == (r : Int)) = true := by rw [h]; simp
   clear h
   generalize decide (s.rp r = r) = x at *
   go_enter Try.func173,Try.ntmps173
   go_wp2_with fail
   go_ret
   exact ⟨ret_bool HD.out.symm,(by first | trivial | rfl)⟩
 · have HD : Hid (decide (s.rp r = r) = false) := Lib.hid (decide_eq_false fun h' => h (HYI.out.2 h'))
   have d1 : ((y : Int) == (r : Int)) = false := by rw [beq_eq_false_iff_ne]; omega
   clear h
   generalize decide (s.rp r = r) = x at *
   go_enter Try.func173,Try.ntmps173
   go_wp2_with fail
   go_ret
   exact ⟨ret_bool HD.out.symm,(by first | trivial | rfl)⟩
set_option maxRecDepth 100000 in
set_option maxHeartbeats 1000000 in
theorem join149_any (g base b wd lim u c v : Nat) (w : World) (s : St) (hI : Inv g s) (hg : g <= 16) (hS : StP base b wd lim w s) (_hbw : base <= w.heap.size) (hu : u < s.t.length) (hv : v < s.t.length) (hc : c < 2 * g) (_hn : s.t.length <= 1000000) :
   Calls Try.prog 210 #[.pointer (some ⟨b,0,none⟩), .int .i64 (u : Int), .int .i64 (c : Int), .int .i64 (v : Int)] w fun e w' => e = .returned (.tuple #[]) /\ StP base b wd lim w' (joinS s u c v) /\ Below base w w' := by
 obtain ⟨hb,P,vr,vp,vq,bl,cs,hB,hC⟩ := hS
 have hlu := hI.len u hu
 have hlv := hI.len v hv
 have hf := flp_lt2 hc
 obtain ⟨gr,cr,rfl,r1,r2,r3⟩ := hC.at_ hu (c := c) (by omega)
 have hC1 := hC.set hu (c := c) (by omega) (v : Int)
 obtain ⟨-,Cu,hCu⟩ : True /\ ∃ C,w.heap[bl u]? = some (.cells C 3 (0,0)) := by obtain ⟨-,⟨C,h, -⟩, -⟩ := hC.row u hu; exact ⟨trivial,C,h⟩
 have hB1 := hB.other ⟨Cu,hCu⟩ (by decide) c (.int .i64 (v : Int))
 have hbu := (hC.row u hu).1
 obtain ⟨gr',cr',e',q1,q2,q3⟩ := hC1.at_ (r := v) (c := flp c) (by simpa [length_set2] using hv) (by simp only [rowlen_set2]; omega)
 have e1 : gr = gr' := by have := congrArg Value.ownBlock e'; simpa [Value.ownBlock] using this
 subst e1
 have hlen1 : ({ s with t := set2 s.t u c (v : Int) } : St).t.length = s.t.length := length_set2 _ _ _ _
 have hC2 := hC1.set (r := v) (c := flp c) (by rw [hlen1]; exact hv) (by simp only [rowlen_set2]; omega) (u : Int)
 obtain ⟨-,Cv,hCv⟩ : True /\ ∃ C,(w.setCell ⟨bl u,c,none⟩ (.int .i64 (v : Int))).heap[bl v]? = some (.cells C 3 (0,0)) := by obtain ⟨-,⟨C,h, -⟩, -⟩ := hC1.row v (by rw [hlen1]; exact hv); exact ⟨trivial,C,h⟩
 have hB2 := hB1.other ⟨Cv,hCv⟩ (by decide) (flp c) (.int .i64 (u : Int))
 have hbv := (hC.row v hv).1
 obtain ⟨-, -,b2, -, -, -, -⟩ := hB.cells
 obtain ⟨-, -,b3, -, -, -, -⟩ := hB1.cells
 have HST : Hid (StP base b wd lim ((w.setCell ⟨bl u,c,none⟩ (.int .i64 (v : Int))).setCell ⟨bl v,flp c,none⟩ (.int .i64 (u : Int))) (joinS s u c v)) := Lib.hid ⟨hb,P,_,vp,vq,bl,cs,hB2.of rfl rfl,hC2⟩
 have HBE : Hid (Below base w ((w.setCell ⟨bl u,c,none⟩ (.int .i64 (v : Int))).setCell ⟨bl v,flp c,none⟩ (.int .i64 (u : Int)))) := Lib.hid (((Below.refl base w).setCell hbu _).setCell hbv _)
 have hfe := flp_eq c (by omega)
 have hc0 : (0 : Int) <= (c : Int) := Int.natCast_nonneg _
 have hc1 : (c : Int) < ((s.t.row u).length : Int) := by omega
 have hf0 : (0 : Int) <= ((flp c : Nat) : Int) := Int.natCast_nonneg _
 have hf1 : ((flp c : Nat) : Int) < ((s.t.row v).length : Int) := by omega
 have hu0 : (0 : Int) <= (u : Int) := Int.natCast_nonneg _
 have hv0 : (0 : Int) <= (v : Int) := Int.natCast_nonneg _
 have hu1 : (u : Int) < (s.t.length : Int) := by omega
 have hv1 : (v : Int) < (s.t.length : Int) := by omega
 simp only [rowlen_set2] at q1
 clear hC hC1 hC2 hB hB1 hB2 hCu hCv hlen1 e' hI hlu hlv
 generalize (s.t.row u).length = lu at *
 generalize (s.t.row v).length = lv at *
 generalize s.t.at u c = x1 at *
 generalize ({ s with t := set2 s.t u c (v : Int) } : St).t.at v (flp c) = x2 at *
 go_enter Try.func210,Try.ntmps210
 go_wp2_with fail
 go_end0
 exact ⟨rfl,HST.out,HBE.out⟩
end Go.Proofs
namespace Go.Proofs
open Go.RowKit Go.Shelf Go.Proofs.Ct Go.Maps
theorem BoxP.grown {b wd lim : Nat} {w w' : World} {s : St} {vr vp vq : Value} (h : BoxP b wd lim w s vr vp vq) {o : Option Nat} (hg : w.grownBy w' o) (hn : o ≠ some b) : BoxP b wd lim w' s vr vp vq := ⟨(hg.block b h.lt (Ne.symm hn)).trans h.box⟩
theorem CoreM.ne_box {base b wd lim : Nat} {w : World} {s s' : St} {P : List Int} {vr vp vq v1 v2 v3 : Value} {bl cs : Nat -> Nat} (h : CoreM base w s P vr vp vq bl cs) (hB : BoxP b wd lim w s' v1 v2 v3) : vp.ownBlock ≠ some b /\ vq.ownBlock ≠ some b /\ vr.ownBlock ≠ some b /\ ∀ i,i < s.t.length -> bl i ≠ b := by
 refine ⟨fun e => ?_,fun e => ?_,fun e => ?_,fun i hi e => ?_⟩
 · obtain ⟨-,C,hC⟩ := owns_block h.par b e
   rw [hB.box] at hC
   cases hC
 · obtain ⟨-,C,hC⟩ := owns_block h.que b e
   rw [hB.box] at hC
   cases hC
 · obtain ⟨-,C,hC⟩ := owns_block h.out b e
   rw [hB.box] at hC
   cases hC
 · obtain ⟨-,⟨C,hC, -⟩, -⟩ := h.row i hi
   rw [e,hB.box] at hC
   cases hC
theorem merge_mem {g base b wd lim x y : Nat} {w : World} {s : St} {P : List Int} {vr vp vq : Value} {bl cs : Nat -> Nat} (hI : Inv g s) (hb : base <= b) (hbw : base <= w.heap.size) (hB : BoxP b wd lim w s vr vp vq) (hC : CoreM base w s P vr vp vq bl cs) (hx : x < s.t.length) (hy : y < s.t.length) (hne : s.rp x ≠ s.rp y) (hq : s.q.length <= 1000000)
   (hi lo : Nat) (hhi : hi = max (s.rp x) (s.rp y)) (hlo : lo = min (s.rp x) (s.rp y)) :
   ∃ gp cp,vp = .slice (some ⟨gp,0,none⟩) s.t.length cp /\ w.cell? ⟨gp,hi,none⟩ = some (.int .i64 (P.getD hi 0)) /\ w.frozen? ⟨gp,hi,none⟩ = false /\ hi < s.t.length /\
     (w.setCell ⟨gp,hi,none⟩ (.int .i64 (lo : Int))).cell? ⟨b,4,none⟩ = some vq /\ ∃ A c w4,(Builtin.append_ #[24,24] 24 #[vq, .slice (some ⟨w.heap.size,0,none⟩) 1 1]).run Try.prog ((w.setCell ⟨gp,hi,none⟩ (.int .i64 (lo : Int))).alloc (.cells #[.int .i64 (hi : Int)] 3)) = .ok (.slice A (s.q.length + 1) c) w4 /\
       w4.cell? ⟨b,4,none⟩ = some vq /\ w4.frozen? ⟨b,4,none⟩ = false /\ (w4.setCell ⟨b,4,none⟩ (.slice A (s.q.length + 1) c)).cell? ⟨b,5,none⟩ = some (.int .i64 s.live) /\ (w4.setCell ⟨b,4,none⟩ (.slice A (s.q.length + 1) c)).frozen? ⟨b,5,none⟩ = false /\
       StP base b wd lim ((w4.setCell ⟨b,4,none⟩ (.slice A (s.q.length + 1) c)).setCell ⟨b,5,none⟩ (.int .i64 (s.live - 1))) (mergeS s x y) /\ Below base w ((w4.setCell ⟨b,4,none⟩ (.slice A (s.q.length + 1) c)).setCell ⟨b,5,none⟩ (.int .i64 (s.live - 1))) := by
 have hR := hC.root.merge hI hx hy hne
 rw [<- hhi, <- hlo] at hR
 have hmx : hi < s.t.length := by have := hI.rlt hx; have := hI.rlt hy; omega
 obtain ⟨gp,cp,rfl,hg1, -,hcc,hfz⟩ := ownI_cell hC.par (by rw [hC.len]; omega)
 rw [hC.len] at hcc
 obtain ⟨-,Cp,hCp⟩ := owns_block hC.par gp rfl
 have hC3 := hC.setP (g := gp) rfl (by rw [hC.len]; exact hmx) (lo : Int) (s' := { mergeS s x y with q := s.q }) (t_merge s x y) rfl (hR.of_rep rfl rfl)
 have hB3 := hB.other (g := gp) ⟨Cp,hCp⟩ (by decide) hi (.int .i64 (lo : Int))
 obtain ⟨-, -, -, -,d4, -, -⟩ := hB3.cells
 obtain ⟨A,c,w4,hrun,hC4,hgr⟩ := hC3.pushQ (by rw [World.size_setCell]; exact hbw) hi hq
 rw [World.size_setCell] at hrun
 obtain ⟨-,hnq, -, -⟩ := hC3.ne_box hB3
 have hB4 := hB3.grown hgr hnq
 obtain ⟨-, -, -, -,e4, -, -⟩ := hB4.cells
 have hB5 := hB4.upd4 (.slice A (s.q.length + 1) c) rfl rfl
 obtain ⟨-, -, -, -, -,f5, -⟩ := hB5.cells
 have hml : (mergeS s x y).live = s.live - 1 := by unfold mergeS; rw [if_neg hne]
 have hB6 := hB5.upd5 (s' := mergeS s x y) (z := s.live - 1) hml (most_merge s x y)
 have hC6 := (hC4.other hB4.box (by decide) (by decide) 4 (.slice A (s.q.length + 1) c)).other hB5.box (by decide) (by decide) 5 (.int .i64 (s.live - 1))
 have hse : ({ ({ mergeS s x y with q := s.q } : St) with q := s.q ++ [hi] } : St) = mergeS s x y := by
   unfold mergeS
   rw [if_neg hne, <- hhi]
 have hpl : P.length = s.t.length := hC.len
 refine ⟨gp,cp,by rw [hpl],hcc hi hmx,hfz hi,hmx,d4,A,c,w4,hrun,e4,hB4.frozen 4,f5,hB5.frozen 5,⟨hb,P.set hi (lo : Int),_,_,_,bl,cs,hB6, ?_⟩, ?_⟩
 · have := hC6
   simp only at this
   rw [hse] at this
   exact this
 · have h1 : Below base w (w.setCell ⟨gp,hi,none⟩ (.int .i64 (lo : Int))) := (Below.refl base w).setCell hg1 _
   have h2 := h1.grown hgr (by rw [World.size_setCell]; exact hbw) (fun r hr => (owns_block hC.que r hr).1)
   exact (h2.setCell hb _).setCell hb _
end Go.Proofs
