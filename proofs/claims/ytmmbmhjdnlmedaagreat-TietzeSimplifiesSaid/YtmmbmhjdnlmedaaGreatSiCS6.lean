/- A range over a function whose values lie in memory that the iterator lays; the body may return; (system).grows; coset.Reps and cayleyref18.Reps; rewrite.of; rewrite.Count; rewrite.Generators; The iterator of (table).walk; A range over a function whose body never leaves the loop; the iterator may write one box of its own; A region that draws its order, by an invariant on its slots: each operation is shown once, whatever order the region is run in. Fenced walk; (system).rewrite; The iterator of pres.rotations; Parents and their roots, plainly. -/
import Derived.Test.YtmmbmhjdnlmedaaGreatSiCS5
import Derived.RangeFuncWrites
import Derived.RangeFuncNested
import Derived.RangeFuncCalls
import Derived.OwnWalkIn
import Derived.TacticsInMore
import Derived.LoopNIn
import Derived.LoopIn
import Derived.Test.YtmmbmhjdnlmedaaGreatSiCS3
import Derived.DeepKeys4
import Derived.MapViews
import Derived.WideKeyArgs
import Derived.Test.YtmmbmhjdnlmedaaGreatSiCS2
import Derived.Deep.MidRow
import Derived.Deep.RegionHeld3
import Derived.RangeFuncFrom
import Derived.OrdersIn
import Derived.TacticsIn
import Derived.Deep.RegionHeld
import Derived.RangeFuncLeaves
import Derived.Test.YtmmbmhjdnlmedaaGreatSiCS4
namespace Go.Proofs
open Go.RowKit Go.Shelf Go.Proofs.Ct Go.Maps
theorem wideF (f : FuncId) : Fence.wide.fn f := trivial
theorem wideD : Fence.wide.depth = none := rfl
def goesOnV (B : Nat) (Kp : World -> World -> Prop) (I Ix : World -> Prop) (W : World) : Exit -> Act -> World -> Prop
 | .normal,_,W' => KeepsFrom B W W' /\ Kp W W' /\ I W'
 | .ret,_,W' => KeepsFrom B W W' /\ Ix W'
 | _,_,_ => False
theorem wpIn_rangeVals {α : Type} {n : Nat} {g : Operand} {ps : Array Tmp} {assign body : Code} {Q : Exit -> Act -> World -> Prop} {a : Act} {w : World}
   {gf : Nat} {lb : Array Value} (hg : a.eval g = .func (.func gf) #[] lb) (eg : ∀ args w,(callFunc gf args).run Tryz.prog w = .ok (.enter gf args) w)
   {encs : α -> Array Value} (N : Nat) (El : Nat -> α -> World -> Prop) (Kp : World -> World -> Prop)
   (hKt : ∀ {A B C : World},Kp A B -> Kp B C -> Kp A C) (hKb : ∀ (W : World) (l : Nat) (o o' : Obj),w.heap.size <= l -> W.heap[l]? = some o -> o.isCells = false -> Kp W (W.putObj l o')) (hps : ∀ x,(encs x).size = ps.size)
   (hEl : ∀ k x A (l : Nat) (o o' : Obj),El k x A -> w.heap.size <= l -> A.heap[l]? = some o -> o.isCells = false -> El k x (A.putObj l o'))
   (hseq : ∀ (l : Nat) (J Jx : Nat -> World -> Prop) (W : World),Below w.heap.size w W ->
     (∀ k A B,J k A -> Below A.heap.size A B -> J k B) -> (∀ k A B,Jx k A -> Below A.heap.size A B -> Jx k B) ->
     (∀ k x W1,J k W1 -> k < N -> El k x W1 -> YieldAt Fence.wide (n - 1 - 1) Tryz.prog l (encs x) W1 fun e W' => (e = .returned (.bool true) /\ J (k + 1) W' /\ Kp W1 W') \/ (e = .returned (.bool false) /\ Jx (k + 1) W')) ->
     J 0 W -> CallsIn Fence.wide (n - 1) Tryz.prog gf (#[.func (.yield l) #[] #[]] ++ lb) W fun e W' => (∃ v,e = .returned v) /\ (J N W' \/ ∃ k,Jx k W'))
   (I Ix : Nat -> World -> Prop) (hIa : ∀ k A B,I k A -> Below A.heap.size A B -> I k B) (hXa : ∀ k A B,Ix k A -> Below A.heap.size A B -> Ix k B)
   (hIp : ∀ k A l (o o' : Obj),I k A -> w.heap.size <= l -> A.heap[l]? = some o -> o.isCells = false -> I k (A.putObj l o'))
   (hXp : ∀ k A l (o o' : Obj),Ix k A -> w.heap.size <= l -> A.heap[l]? = some o -> o.isCells = false -> Ix k (A.putObj l o'))
   (h0 : I 0 w) (a₁ : α -> Act)
   (hassign : ∀ (l : Nat) (x : α) (W : World) (K : Act -> World -> Prop),K (a₁ x) W ->
     assign.wpIn (Fence.wide.inRound l) (n - 1 - 1) Tryz.prog (Exit.then K (fun _ _ _ => False)) { tmps := (ps.zip (encs x)).foldl (fun t (p,v) => t.setIfInBounds p v) a.tmps,defers := [] } W)
   (hbody : ∀ (l : Nat) (k : Nat) (x : α) (W : World),I k W -> k < N -> El k x W -> w.heap.size <= W.heap.size -> body.wpIn (Fence.wide.inRound l) (n - 1 - 1) Tryz.prog (goesOnV w.heap.size Kp (I (k + 1)) (Ix (k + 1)) W) (a₁ x) W)
   (hdone : ∀ (D : Nat) (W : World),w.heap.size <= D -> I N W -> W.heap[D]? = some (.deferred (some [])) -> Q .normal { a with defers := { target := .collected D,args := #[] } :: a.defers } W)
   (hstop : ∀ (D : Nat) (k : Nat) (W : World),w.heap.size <= D -> Ix k W -> W.heap[D]? = some (.deferred (some [])) -> Code.ret.wpIn Fence.wide n Tryz.prog Q { a with defers := { target := .collected D,args := #[] } :: a.defers } W) :
   (Code.rangeFunc g ps assign body).wpIn Fence.wide n Tryz.prog Q a w := by
 refine wpIn_rangeFunc ?_
 intro fn hfn
 obtain ⟨rec,hrec⟩ : ∃ rec : LoopState -> Option Code -> Loop,rec = fun st pe => { state := st,pending := pe,fn,tmps := a.tmps,params := ps,assign,body,defers := w.heap.size } := ⟨_,rfl⟩
 obtain ⟨W1,hW1⟩ : ∃ W1,(w.alloc (.deferred (some []))).alloc (.loop (rec .ready none)) = W1 := ⟨_,rfl⟩
 have hL1 : W1.heap[w.heap.size + 1]? = some (.loop (rec .ready none)) := by
   rw [<- hW1]; have := World.alloc_heap_new (w.alloc (.deferred (some []))) (.loop (rec .ready none)); rwa [World.size_alloc] at this
 have hK1 : W1.heap[w.heap.size]? = some (.deferred (some [])) := by
   rw [<- hW1]; exact (Below.heap_alloc _ _ _ (by simp)).trans (World.alloc_heap_new w _)
 have hb1 : Below w.heap.size w W1 := by
   rw [<- hW1]; exact ((Below.refl _ w).alloc (Nat.le_refl _) _).alloc (by simp) _
 have hI1 : I 0 W1 := hIa _ _ _ h0 hb1
 refine ⟨w.heap.size + 1, [{ target := .collected w.heap.size,args := #[] }],W1, { target := .fn (.func gf) lb,args := #[.func (.yield (w.heap.size + 1)) #[] #[]] },W1,gf,
   #[.func (.yield (w.heap.size + 1)) #[] #[]] ++ lb,W1, ?_, ?_, ?_, ?_,fun h => (by simp [wideD] at h), ?_⟩
 · rw [<- hW1,hrec]; exact run_enterLoop_outer _ _ _ _ _
 · simp only [resolve,hg]
   simp [go_sem]
 · intro f' _; trivial
 · simp [invoke,go_sem,eg]
 · refine (hseq (w.heap.size + 1)
     (fun k W => I k W /\ W.heap[w.heap.size + 1]? = some (.loop (rec .ready none)) /\ W.heap[w.heap.size]? = some (.deferred (some [])))
     (fun k W => Ix k W /\ W.heap[w.heap.size + 1]? = some (.loop (rec .done (some .ret))) /\ W.heap[w.heap.size]? = some (.deferred (some [])))
     W1 hb1
     (fun k A B hs hb => ⟨hIa k A B hs.1 hb,(hb.block _ (Array.getElem?_eq_some_iff.1 hs.2.1).1).trans hs.2.1,(hb.block _ (Array.getElem?_eq_some_iff.1 hs.2.2).1).trans hs.2.2⟩)
     (fun k A B hs hb => ⟨hXa k A B hs.1 hb,(hb.block _ (Array.getElem?_eq_some_iff.1 hs.2.1).1).trans hs.2.1,(hb.block _ (Array.getElem?_eq_some_iff.1 hs.2.2).1).trans hs.2.2⟩)
     ?_ ⟨hI1,hL1,hK1⟩).mono ?_
   · -- ONE ROUND
     rintro k x W ⟨hi,hl,hk⟩ hlen hel
     have hlt : w.heap.size + 1 < W.heap.size := (Array.getElem?_eq_some_iff.1 hl).1
     have hy := run_yield (P := Tryz.prog) (args := encs x) hl (by rw [hrec]; exact hps x)
     rw [hrec] at hy
     refine ⟨fn,_,assign,body,hy,roundIn_of_wpIn hfn (hassign _ x W _ ⟨_,run_beginRound hl (by rw [hrec]), ?_⟩)⟩
     obtain ⟨Wb,hWb⟩ : ∃ Wb,Wb = W.putObj (w.heap.size + 1) (.loop { rec .ready none with state := .busy }) := ⟨_,rfl⟩
     have hl2 : Wb.heap[w.heap.size + 1]? = some (.loop { rec .ready none with state := .busy }) := by rw [hWb]; exact World.putObj_heap_same hlt
     have hk2 : Wb.heap[w.heap.size]? = some (.deferred (some [])) := by rw [hWb]; exact (World.putObj_heap_other (by omega)).trans hk
     have hi2 : I k Wb := by rw [hWb]; exact hIp k W (w.heap.size + 1) _ _ hi (by omega) hl rfl
     have he2 : El k x Wb := by rw [hWb]; exact hEl k x W (w.heap.size + 1) _ _ hel (by omega) hl rfl
     have hw2 : Kp W Wb := by rw [hWb]; exact hKb _ _ _ _ (by omega) hl rfl
     have hs2 : W.heap.size = Wb.heap.size := by rw [hWb]; simp
     rw [<- hWb]
     refine wpIn_mono (hbody _ k x Wb hi2 hlen he2 (by omega)) ?_
     rintro e a3 W3 hp
     cases e with
     | normal =>
       obtain ⟨ht,hkp,hi3⟩ := hp
       have hl3 := ht.same _ _ (by omega) hl2 rfl
       have hk3 := ht.same _ _ (Nat.le_refl _) hk2 rfl
       have hsz3 := ht.size
       have hr := run_endRound (P := Tryz.prog) none hl3
       rw [hrec] at hr
       refine ⟨_,_,hr, .inl ⟨rfl,⟨hIp _ _ _ _ _ hi3 (by omega) hl3 rfl, ?_,(World.putObj_heap_other (by omega)).trans hk3⟩, ?_⟩⟩
       · rw [hrec]; exact World.putObj_heap_same (by omega)
       · exact hKt (hKt hw2 hkp) (hKb _ _ _ _ (by omega) hl3 rfl)
     | ret =>
       obtain ⟨ht,hi3⟩ := hp
       have hl3 := ht.same _ _ (by omega) hl2 rfl
       have hk3 := ht.same _ _ (Nat.le_refl _) hk2 rfl
       have hsz3 := ht.size
       have hr := run_endRound (P := Tryz.prog) (some .ret) hl3
       rw [hrec] at hr
       refine ⟨_,_,hr, .inr ⟨rfl,⟨hXp _ _ _ _ _ hi3 (by omega) hl3 rfl, ?_,(World.putObj_heap_other (by omega)).trans hk3⟩⟩⟩
       rw [hrec]; exact World.putObj_heap_same (by omega)
     | exit id => exact hp.elim
     | goto t => exact hp.elim
     | panic ch => exact hp.elim
     | outgrown => exact hp.elim
   · -- BEHIND THE ITERATOR
     rintro e W2 ⟨⟨v,rfl⟩,(⟨hi,hl,hk⟩ | ⟨k,hi,hl,hk⟩)⟩
     · exact ⟨none,_,by have := run_endLoop (P := Tryz.prog) hl (by rw [hrec]; simp); rw [hrec] at this; exact this,hdone _ _ (Nat.le_refl _) (hIp _ _ _ _ _ hi (by omega) hl rfl) ((World.putObj_heap_other (by omega)).trans hk)⟩
     · exact ⟨some .ret,_,by have := run_endLoop (P := Tryz.prog) hl (by rw [hrec]; simp); rw [hrec] at this; exact this,hstop _ k _ (Nat.le_refl _) (hXp _ _ _ _ _ hi (by omega) hl rfl) ((World.putObj_heap_other (by omega)).trans hk)⟩
end Go.Proofs
namespace Go.Proofs
open Go.RowKit Go.Shelf Go.Proofs.Ct Go.Maps
theorem IntsAt.take {w : World} {A : Option Addr} {n c : Nat} {xs : List Int} (h : IntsAt w (.slice A n c) xs) {k : Nat} (hk : k <= n) : IntsAt w (.slice A k c) (xs.take k) := by
 obtain ⟨⟨A',n',c',e,h2,h3,h4,h5⟩,hf⟩ := h
 obtain ⟨rfl,rfl,rfl⟩ := Value.slice.inj e
 have hl : n = xs.length := by simpa [ints] using h2
 refine ⟨⟨A,k,c,rfl,by simp [ints]; omega,by omega,h4,fun hn => ?_⟩,fun x hx => hf x (List.mem_of_mem_take hx)⟩
 obtain ⟨b,off,ha,hr⟩ := h5 (by omega)
 refine ⟨b,off,ha,fun j v hv => hr j v ?_⟩
 have : ints (xs.take k) = (ints xs).take k := by simp [ints,List.map_take]
 rw [this,List.getElem?_take] at hv
 split at hv
 · exact hv
 · cases hv
end Go.Proofs
namespace Go.Proofs
open Go.RowKit Go.Shelf Go.Proofs.Ct
theorem OutSt.first {w w2 : World} (hB : Below w.heap.size w w2) :
   OutSt 36 (fun k => k = w2.heap.size) w ((w2.alloc (.cells #[] 3)).alloc (.cells #[.slice (some ⟨w2.heap.size,0,none⟩) 0 0] 36)) (.slice (some ⟨w2.heap.size + 1,0,none⟩) 1 1) [[]] := by
 have hb := allocs_below [.cells #[] 3, .cells #[.slice (some ⟨w2.heap.size,0,none⟩) 0 0] 36] w2 w2.heap.size (Nat.le_refl _)
 have e1 := allocs_get [.cells #[] 3, .cells #[.slice (some ⟨w2.heap.size,0,none⟩) 0 0] 36] w2 0 _ rfl
 have e2 := allocs_get [.cells #[] 3, .cells #[.slice (some ⟨w2.heap.size,0,none⟩) 0 0] 36] w2 1 _ rfl
 have h1 := hB.size
 refine ⟨hB.trans (hb.mono h1),⟨[.slice (some ⟨w2.heap.size,0,none⟩) 0 0],⟨rfl, .inr ⟨w2.heap.size + 1,1,_,rfl,by omega,e2,Nat.le_refl _,by simp [maxLen],rfl,rfl⟩⟩,rfl,fun j hj => ?_⟩,fun k hk => ?_⟩
 · obtain rfl : j = 0 := by simpa using hj
   refine ⟨_,rfl,fun w' _ => ⟨⟨_,0,0,rfl,rfl,Nat.le_refl _,by simp,fun h => absurd h (by omega)⟩,fun x hx => by cases hx⟩⟩
 · subst hk
   refine ⟨h1,by simp; omega,_,e1⟩
end Go.Proofs
namespace Go.Proofs
open Go.RowKit Go.Shelf Go.Proofs.Ct Go.Maps
section
variable {o : Oper} {a : Act} {w w' : World} {n : Nat} {v : Value}
theorem r_move (x : Operand) (ho : o.op = .move x) (hx : a.eval x = v) : (execOp a.eval o).run Tryz.prog w = .ok (.value v) w := by
 unfold execOp
 simp only [ho,hx]
 rfl
end
end Go.Proofs
namespace Go.Proofs
open Go.RowKit Go.Shelf Go.Proofs.Ct Go.Maps
theorem Tab.form {w : World} {v : Value} {xs : List (List Int)} (h : Tab w v xs) : ∃ A c,v = .slice A xs.length c := let ⟨A,c,e,_⟩ := h.open_; ⟨A,c,e⟩
theorem below_boxed {w w1 : World} (hb : Below w.heap.size w w1) (o : Obj) (cs : Array Value) : Below w.heap.size w ((w1.alloc o).setRow w1.heap.size cs) := by
 have h1 := hb.size
 have h2 : Below w.heap.size w (w1.alloc o) := hb.alloc h1 _
 exact h2.trans ⟨rfl,rfl,rfl,by rw [World.setRow]; simp,fun k hk => setRow_other _ _ k _ (by omega)⟩
end Go.Proofs
namespace Go.Proofs
open Go.RowKit Go.Shelf Go.Proofs.Ct Go.Maps
section
variable {ops : Array Oper} {o : Oper} {a : Act} {w w' : World} {K : Act -> World -> Prop} {Q : Exit -> Act -> World -> Prop} {E : Prop} {v : Value}
end
theorem OutSt2.done' {t e : TypeId} (he : e ≠ 3) (ht : Tryz.prog.underlying t = some (.slice e)) (hi : ∃ i,Tryz.prog.info? e = some i /\ i.zero = some (.slice none 0 0) /\ i.size = 1 /\ i.bytes = 24) {F : Nat -> Prop} {w0 wr : World} {vout : Value} {A : Option Addr} {n c : Nat} {rows : List (List Int)} {x : List Int} (h : OutSt2 e F w0 wr vout (.slice A n c) rows x) (hf : Fits x) (hl : rows.length <= 9000000) :
   ∃ A' c' w',(Builtin.append_ #[t,t] t #[vout, .slice (some ⟨wr.heap.size,0,none⟩) 1 1]).run Tryz.prog (wr.alloc (.cells #[.slice A n c] e)) = .ok (.slice A' (rows.length + 1) c') w' /\
     OutSt e (fun k => F k \/ (Value.slice A n c).ownBlock = some k) w0 w' (.slice A' (rows.length + 1) c') (rows ++ [x]) /\ wr.grownBy w' vout.ownBlock := by
 have hub := h.st.out.block
 have hrb := owns_block h.row
 have hne : ∀ {k : Nat} {C : Array Value} {fr : Nat × Nat},wr.heap[k]? = some (.cells C 3 fr) -> vout.ownBlock ≠ some k := fun {k C fr} hc e' => by
   obtain ⟨-,C',hC'⟩ := hub k e'
   rw [hc] at hC'
   injection hC' with h5
   injection h5 with _ h6 _
   exact he h6.symm
 have hF2 : ∀ k,(F k \/ (Value.slice A n c).ownBlock = some k) -> k < wr.heap.size /\ vout.ownBlock ≠ some k := fun k hk => by
   rcases hk with hk | hk
   · obtain ⟨h1,h2,C,hC⟩ := h.st.fs k hk
     exact ⟨h2,hne hC⟩
   · obtain ⟨h1,C,hC⟩ := hrb k hk
     exact ⟨(Array.getElem?_eq_some_iff.1 hC).1,hne hC⟩
 obtain ⟨A',c',w',hr,ho',hg,hw⟩ := push_row (ty := t) ht hi wr w0.heap.size (fun k => F k \/ (Value.slice A n c).ownBlock = some k) vout rows (h.st.out.keep (fun _ _ => rfl) (Ag.refl _ _) (fun k hk => .inl hk)) A n c x ((IntsF.of_own h.row hf).mono fun k hk => .inr hk) hF2 (by omega) h.st.below.size
 refine ⟨A',c',w',hr,⟨h.st.below.grown hg h.st.below.size (fun k hk => (hub k hk).1),ho',fun k hk => ?_⟩,hg⟩
 have h2 := (hF2 k hk).1
 rcases hk with hk | hk
 · obtain ⟨h1,_,C,hC⟩ := h.st.fs k hk
   exact ⟨h1,Nat.lt_of_lt_of_le h2 hg.size,C,grown_cells hg hC (hne hC)⟩
 · obtain ⟨h1,C,hC⟩ := hrb k hk
   exact ⟨h1,Nat.lt_of_lt_of_le h2 hg.size,C,grown_cells hg hC (hne hC)⟩
theorem ints_one (w : World) (z : Int) (hz : -9223372036854775808 <= z /\ z <= 9223372036854775807) : IntsAt (w.alloc (.cells #[.int .i64 z] 3)) (.slice (some ⟨w.heap.size,0,none⟩) 1 1) [z] := by
 refine ⟨⟨_,1,1,rfl,rfl,Nat.le_refl _,by simp [maxLen],fun _ => ⟨w.heap.size,0,rfl,fun j u hu => ?_⟩⟩,fun x hx => ?_⟩
 · rw [cell_of_row _ _ _ _ _ _ (heap_alloc_new w _),Nat.zero_add]
   simpa [ints] using hu
 · have : x = z := by simpa using hx
   rw [this]; exact hz
end Go.Proofs
namespace Go.Proofs
open Go.RowKit Go.Shelf Go.Proofs.Ct Go.Maps
theorem wide_fn (f : FuncId) : Fence.wide.fn f := trivial
theorem wide_depth : Fence.wide.depth = none := rfl
attribute [local simp,local go_sem] wide_fn wide_depth
attribute [local go_sem] Oper.semAt_some
def Kb (S : Nat -> Prop) (A B : World) : Prop := B.os = A.os /\ B.tape = A.tape /\ B.output = A.output /\ A.heap.size <= B.heap.size /\ Ag S A B
theorem cell_of2 {w : World} {b : Nat} {v u : Value} {e : TypeId} (h : w.heap[b]? = some (.cells #[v,u] e (0,0))) : w.cell? ⟨b,0,none⟩ = some v /\ w.cell? ⟨b,1,none⟩ = some u :=
 ⟨by rw [cell_of_row _ _ _ _ _ _ h]; rfl,by rw [cell_of_row _ _ _ _ _ _ h]; rfl⟩
def LetsOk (g : Nat) (w : List Int) : Prop := ∀ x ∈ w, -(g : Int) <= x /\ x <= g /\ x ≠ 0
theorem LetsOk.at_ {g : Nat} {w : List Int} (h : LetsOk g w) {k : Nat} (hk : k < w.length) : -(g : Int) <= w.getD k 0 /\ w.getD k 0 <= g /\ w.getD k 0 ≠ 0 := by
 rw [List.getD_eq_getElem?_getD,List.getElem?_eq_getElem hk]
 exact h _ (List.getElem_mem hk)
end Go.Proofs
namespace Go.Proofs
open Go.RowKit Go.Shelf Go.Proofs.Ct Go.Maps
structure Turned (bo B : Nat) (W W' : World) : Prop where
 os : W'.os = W.os
 tape : W'.tape = W.tape
 output : W'.output = W.output
 size : W.heap.size <= W'.heap.size
 block : ∀ k,k < W.heap.size -> k ≠ bo -> (k < B \/ ∃ o : Obj,W.heap[k]? = some o /\ o.isCells = false) -> W'.heap[k]? = W.heap[k]?
theorem Turned.refl (bo B : Nat) (W : World) : Turned bo B W W := ⟨rfl,rfl,rfl,Nat.le_refl _,fun _ _ _ _ => rfl⟩
theorem Turned.trans {bo B : Nat} {W X Y : World} (h : Turned bo B W X) (k : Turned bo B X Y) : Turned bo B W Y :=
 ⟨k.os.trans h.os,k.tape.trans h.tape,k.output.trans h.output,Nat.le_trans h.size k.size,fun i hi hb hc =>
   (k.block i (Nat.lt_of_lt_of_le hi h.size) hb (hc.imp id fun ⟨o,ho,hn⟩ => ⟨o,(h.block i hi hb hc).trans ho,hn⟩)).trans (h.block i hi hb hc)⟩
theorem Turned.of_below {bo B : Nat} {W X : World} (h : Below W.heap.size W X) : Turned bo B W X := ⟨h.os,h.tape,h.output,h.size,fun i hi _ _ => h.block i hi⟩
theorem Turned.set {bo B : Nat} {W : World} (v : Value) : Turned bo B W (W.setCell ⟨bo,0,none⟩ v) := ⟨rfl,rfl,rfl,by simp [World.setCell],fun i _ hb _ => Below.heap_setCell W ⟨bo,0,none⟩ v i hb⟩
theorem Turned.grown {bo B : Nat} {W X : World} {row : Option Nat} (h : W.grownBy X row) (hr : ∀ r,row = some r -> B <= r /\ ∃ o : Obj,W.heap[r]? = some o /\ o.isCells = true) : Turned bo B W X :=
 ⟨h.os,h.tape,h.output,h.size,fun i hi _ hc => h.block i hi fun e => by
   obtain ⟨h1,o,h2,h3⟩ := hr i e.symm
   rcases hc with hc | ⟨o',h4,h5⟩
   · omega
   · rw [h2] at h4; cases h4; rw [h3] at h5; cases h5⟩
theorem Turned.kb {bo B : Nat} {W X : World} (h : Turned bo B W X) {S : Nat -> Prop} (hS : ∀ k,S k -> k < B /\ k ≠ bo) (hB : B <= W.heap.size) : Kb S W X :=
 ⟨h.os,h.tape,h.output,h.size,fun k hk => h.block k (Nat.lt_of_lt_of_le (hS k hk).1 hB) (hS k hk).2 (.inl (hS k hk).1)⟩
theorem Kb.trans {S : Nat -> Prop} {A B C : World} (h : Kb S A B) (k : Kb S B C) : Kb S A C :=
 ⟨k.1.trans h.1,k.2.1.trans h.2.1,k.2.2.1.trans h.2.2.1,Nat.le_trans h.2.2.2.1 k.2.2.2.1,h.2.2.2.2.trans k.2.2.2.2⟩
theorem Kb.put {S : Nat -> Prop} {W : World} {l : Nat} {o : Obj} (hS : ∀ k,S k -> k ≠ l) : Kb S W (W.putObj l o) :=
 ⟨rfl,rfl,rfl,by simp,fun k hk => World.putObj_heap_other (hS k hk)⟩
end Go.Proofs
namespace Go.Proofs
section
variable {F : Fence} {n : Nat} {P : Program} {ops : Array Oper} {Q : Exit -> Act -> World -> Prop} {md : Region.Mode}
theorem count_set : ∀ (l : List Bool) (i : Nat),l[i]? = some false -> (l.set i true).count false + 1 = l.count false
 | [],i,h => by simp at h
 | b :: l,0,h => by
   simp at h
   subst h
   simp
 | b :: l,i + 1,h => by
   have ih := count_set l i (by simpa using h)
   simp only [List.set_cons_succ,List.count_cons]
   omega
theorem ready_mem {listed : Array Bool} {i : Nat} (h : i ∈ Region.ready md ops listed) : i < ops.size /\ listed.getD i true = false /\
   ∃ o,ops[i]? = some o /\ ∀ e ∈ o.after.toList,Region.binds md e = true -> listed.getD e.on false = true := by
 simp only [Region.ready,List.mem_filter,List.mem_range,Bool.and_eq_true,Bool.not_eq_true'] at h
 obtain ⟨h1,h2,h3⟩ := h
 refine ⟨h1,h2,ops[i],Array.getElem?_eq_getElem h1,fun e he hb => ?_⟩
 rw [Array.getElem?_eq_getElem h1] at h3
 simp only [Option.map_some,Option.getD_some] at h3
 rw [Array.all_eq_true_iff_forall_mem] at h3
 have := h3 e (by simpa using he)
 simpa [hb] using this
theorem wpAnyIn_inv (I : Array Bool -> Act -> World -> Prop)
   (hstep : ∀ listed a w i,listed.size = ops.size -> I listed a w -> i ∈ Region.ready md ops listed -> wpOpIn F n P ops Q i (I (listed.setIfInBounds i true)) a w)
   (hend : ∀ listed a w,listed.size = ops.size -> I listed a w -> Region.ready md ops listed = [] -> Q .normal a w) :
   ∀ (fuel : Nat) (listed : Array Bool) (a : Act) (w : World),listed.size = ops.size -> listed.toList.count false <= fuel -> I listed a w -> wpAnyIn F n P md ops Q fuel listed a w := by
 intro fuel
 induction fuel with
 | zero =>
   intro listed a w hs hc hI
   have hr : Region.ready md ops listed = [] := by
     rw [List.eq_nil_iff_forall_not_mem]
     intro i hi
     obtain ⟨h1,h2,_⟩ := ready_mem hi
     have hlt : i < listed.size := by omega
     have hf : listed[i] = false := by simpa [Array.getD,hlt] using h2
     have : false ∈ listed.toList := by rw [<- hf]; simp
     have := List.count_pos_iff.2 this
     omega
   exact ⟨hr,hend _ _ _ hs hI hr⟩
 | succ fuel ih =>
   intro listed a w hs hc hI
   refine ⟨hend _ _ _ hs hI,fun i hi => ?_⟩
   obtain ⟨h1,h2,_⟩ := ready_mem hi
   have hlt : i < listed.size := by omega
   have hf : listed.toList[i]? = some false := by
     have : listed[i] = false := by simpa [Array.getD,hlt] using h2
     simp [hlt,this]
   have hcs := count_set listed.toList i hf
   refine wpOpIn_mono (fun a' w' h' => ih _ a' w' (by simpa using hs) ?_ h') (hstep listed a w i hs hI hi)
   rw [Array.toList_setIfInBounds]
   omega
structure Same (a0 : Act) (lo N : Nat) (a : Act) : Prop where
 size : a.tmps.size = a0.tmps.size
 defers : a.defers = a0.defers
 out : ∀ t,t < lo \/ lo + N <= t -> a.tmps.getD t undef = a0.tmps.getD t undef
theorem Same.refl (a0 : Act) (lo N : Nat) : Same a0 lo N a0 := ⟨rfl,rfl,fun _ _ => rfl⟩
theorem Same.put {a0 a : Act} {lo N i : Nat} (h : Same a0 lo N a) (hi : i < N) (v : Value) : Same a0 lo N (a.put (some (lo + i)) v) :=
 ⟨by simpa [Act.put] using h.size,h.defers,fun t ht => by
   rw [<- h.out t ht]
   have hne : lo + i ≠ t := by omega
   simp only [Act.put,Array.getD_eq_getD_getElem?]
   rw [Array.getElem?_setIfInBounds_ne hne]⟩
theorem put_getD_same (a : Act) (t : Nat) (v : Value) (h : t < a.tmps.size) : (a.put (some t) v).tmps.getD t undef = v := by
 simp [Act.put,Array.getD_eq_getD_getElem?,h]
theorem put_getD_ne (a : Act) (t u : Nat) (v : Value) (h : t ≠ u) : (a.put (some t) v).tmps.getD u undef = a.tmps.getD u undef := by
 simp only [Act.put,Array.getD_eq_getD_getElem?]
 rw [Array.getElem?_setIfInBounds_ne h]
structure Tailed (ops : Array Oper) (N : Nat) : Prop where
 size : ops.size = N + 2
 lex : ∀ (i : Nat) (o : Oper),ops[i]? = some o -> ∀ e ∈ o.after.toList,e.on < i
 succ : ∀ i,i < N -> ∃ (j : Nat) (o : Oper),i < j /\ j <= N /\ ops[j]? = some o /\ ∃ e ∈ o.after.toList,e.on = i /\ Region.binds .any e = true
 last : ∃ o : Oper,ops[N + 1]? = some o /\ ∃ e ∈ o.after.toList,e.on = N /\ Region.binds .any e = true
def tailedB (ops : Array Oper) (N : Nat) : Bool :=
 (ops.size == N + 2) && (List.range ops.size).all (fun i => match ops[i]? with | some o => o.after.toList.all fun e => decide (e.on < i) | none => true) &&
 (List.range N).all (fun i => (List.range (N + 1)).any fun j => decide (i < j) && (match ops[j]? with | some o => o.after.toList.any fun e => (e.on == i) && Region.binds .any e | none => false)) &&
 (match ops[N + 1]? with | some o => o.after.toList.any fun e => (e.on == N) && Region.binds .any e | none => false)
theorem tailed_of {ops : Array Oper} {N : Nat} (h : tailedB ops N = true) : Tailed ops N := by
 unfold tailedB at h
 simp only [Bool.and_eq_true] at h
 obtain ⟨⟨⟨h1,h2⟩,h3⟩,h4⟩ := h
 refine ⟨by simpa using h1,fun i o ho e he => ?_,fun i hi => ?_, ?_⟩
 · rw [List.all_eq_true] at h2
   have hi : i < ops.size := (Array.getElem?_eq_some_iff.1 ho).1
   have := h2 i (by simpa using hi)
   rw [ho] at this
   rw [List.all_eq_true] at this
   simpa using this e he
 · rw [List.all_eq_true] at h3
   have := h3 i (by simpa using hi)
   rw [List.any_eq_true] at this
   obtain ⟨j,hj,hjj⟩ := this
   rw [Bool.and_eq_true] at hjj
   obtain ⟨hij,hm⟩ := hjj
   cases ho : ops[j]? with
   | none => rw [ho] at hm; cases hm
   | some o =>
     rw [ho] at hm
     rw [List.any_eq_true] at hm
     obtain ⟨e,he,hee⟩ := hm
     rw [Bool.and_eq_true] at hee
     exact ⟨j,o,by simpa using hij,by simp at hj; omega,ho,e,he,by simpa using hee.1,hee.2⟩
 · cases ho : ops[N + 1]? with
   | none => rw [ho] at h4; cases h4
   | some o =>
     rw [ho] at h4
     rw [List.any_eq_true] at h4
     obtain ⟨e,he,hee⟩ := h4
     rw [Bool.and_eq_true] at hee
     exact ⟨o,rfl,e,he,by simpa using hee.1,hee.2⟩
def Closed (ops : Array Oper) (listed : Array Bool) : Prop := ∀ (i : Nat) (o : Oper),ops[i]? = some o -> listed.getD i false = true -> ∀ e ∈ o.after.toList,Region.binds .any e = true -> listed.getD e.on false = true
theorem getD_set_listed {listed : Array Bool} {i j : Nat} (hi : i < listed.size) : (listed.setIfInBounds i true).getD j false = if i = j then true else listed.getD j false := by
 simp only [Array.getD_eq_getD_getElem?]
 by_cases e : i = j
 · subst e; simp [hi]
 · rw [Array.getElem?_setIfInBounds_ne e,if_neg e]
theorem getD_true_false {listed : Array Bool} {i : Nat} (hi : i < listed.size) : listed.getD i true = listed.getD i false := by
 simp [Array.getD,hi]
section
variable {F : Fence} {n : Nat} {P : Program} {ops : Array Oper} {Q : Exit -> Act -> World -> Prop}
theorem Tailed.before {N : Nat} (ht : Tailed ops N) {listed : Array Bool} (hc : Closed ops listed) {o : Oper} (ho : ops[N]? = some o) (hp : ∀ e ∈ o.after.toList,Region.binds .any e = true -> listed.getD e.on false = true) :
   ∀ k i,i < N -> N - i <= k -> listed.getD i false = true := by
 intro k
 induction k with
 | zero => intro i hi hk; omega
 | succ k ih =>
   intro i hi hk
   obtain ⟨j,oj,hij,hjN,hoj,e,he,rfl,hb⟩ := ht.succ i hi
   rcases Nat.lt_or_ge j N with h | h
   · exact hc j oj hoj (ih j h (by omega)) e he hb
   · have : j = N := by omega
     subst this
     rw [ho] at hoj
     cases hoj
     exact hp e he hb
theorem wpIn_region_tail {id : Nat} {a0 : Act} {w : World} (hm : P.follows .mixedOrders = true) (lo N : Nat) (ht : Tailed ops N) (S : World -> Prop) (Φ : Nat -> Value -> World -> Prop) (G : World -> World -> Prop)
   (hΦ : ∀ i v w w',G w w' -> Φ i v w -> Φ i v w')
   (hsz : lo + N <= a0.tmps.size) (h0 : S w.drew)
   (hop : ∀ (i : Nat) (o : Oper) (a : Act) (w : World),i < N -> ops[i]? = some o -> S w -> Same a0 lo N a -> (∀ e ∈ o.after.toList,Region.binds .any e = true -> Φ e.on (a.tmps.getD (lo + e.on) undef) w) ->
     o.guard = none /\ o.dst = some (lo + i) /\ o.wpIn F n P a w (fun a' w' => ∃ v,a' = a.put (some (lo + i)) v /\ S w' /\ G w w' /\ Φ i v w') Q)
   (hend : ∀ (a : Act) (w : World),S w -> Same a0 lo N a -> (∀ i,i < N -> Φ i (a.tmps.getD (lo + i) undef) w) ->
     wpOpIn F n P ops Q N (fun a' w' => wpOpIn F n P ops Q (N + 1) (fun a'' w'' => Q .normal a'' w'') a' w') a w) :
   (Code.region id ops true).wpIn F n P Q a0 w := by
 refine wpIn_region_any hm ?_
 have hsize := ht.size
 refine wpAnyIn_inv (fun listed a w => Closed ops listed /\
     ((listed.getD N false = false /\ listed.getD (N + 1) false = false /\ S w /\ Same a0 lo N a /\ ∀ i,i < N -> listed.getD i false = true -> Φ i (a.tmps.getD (lo + i) undef) w) \/
      (listed.getD N false = true /\ listed.getD (N + 1) false = false /\ wpOpIn F n P ops Q (N + 1) (fun a'' w'' => Q .normal a'' w'') a w) \/
      (listed.getD (N + 1) false = true /\ Q .normal a w))) ?_ ?_ ops.size _ a0 _ (by simp) ?_ ⟨fun i o ho h => ?_, .inl ⟨?_, ?_,h0,Same.refl _ _ _,fun i hi h => ?_⟩⟩
 · rintro listed a w i hls ⟨hcl,hI⟩ hi
   obtain ⟨h1,h2,o,ho,hpre⟩ := ready_mem hi
   rw [getD_true_false (by omega)] at h2
   have hcl' : Closed ops (listed.setIfInBounds i true) := fun j oj hoj hl e he hb => by
     rw [getD_set_listed (by omega)] at hl ⊢
     by_cases eij : i = j
     · subst eij
       rw [ho] at hoj; cases hoj
       have := hpre e he hb
       split
       · rfl
       · exact this
     · rw [if_neg eij] at hl
       have := hcl j oj hoj hl e he hb
       split
       · rfl
       · exact this
   have hsetD : ∀ j,(listed.setIfInBounds i true).getD j false = if i = j then true else listed.getD j false := fun j => getD_set_listed (by omega)
   rcases hI with ⟨hN,hN1,hS,hsame,hsl⟩ | ⟨hN,hN1,hK⟩ | ⟨hN1,hQ⟩
   · rcases Nat.lt_or_ge i N with hiN | hiN
     · obtain ⟨hg,hd,hwp⟩ := hop i o a w hiN ho hS hsame (fun e he hb => by
         have hl := hpre e he hb
         have hlt := ht.lex i o ho e he
         exact hsl e.on (by omega) hl)
       unfold wpOpIn
       rw [ho]
       simp only [Region.wanted,hg,if_true]
       refine Oper.wpIn_mono (fun a' w' h => ?_) hwp
       obtain ⟨v,rfl,hS',hG,hv⟩ := h
       refine ⟨hcl', .inl ⟨by rw [hsetD,if_neg (by omega)]; exact hN,by rw [hsetD,if_neg (by omega)]; exact hN1,hS',hsame.put hiN v,fun j hj hl => ?_⟩⟩
       by_cases e : i = j
       · subst e
         rw [put_getD_same _ _ _ (by rw [hsame.size]; omega)]
         exact hv
       · rw [put_getD_ne _ _ _ _ (by omega)]
         rw [hsetD,if_neg e] at hl
         exact hΦ j _ _ _ hG (hsl j hj hl)
     · have hi2 : i = N \/ i = N + 1 := by omega
       rcases hi2 with rfl | rfl
       · have hall := ht.before hcl ho hpre
         refine wpOpIn_mono (fun a' w' h => ?_) (hend a w hS hsame (fun j hj => hsl j hj (hall _ j hj (Nat.le_refl _))))
         exact ⟨hcl', .inr (.inl ⟨by rw [hsetD,if_pos rfl],by rw [hsetD,if_neg (by omega)]; exact hN1,h⟩)⟩
       · obtain ⟨o',ho',e,he,heN,hb⟩ := ht.last
         rw [ho] at ho'; cases ho'
         have := hpre e he hb
         rw [heN,hN] at this
         cases this
   · rcases Nat.lt_or_ge i N with hiN | hiN
     · have hoN : ∃ o,ops[N]? = some o := ⟨ops[N]'(by omega),Array.getElem?_eq_getElem (by omega)⟩
       obtain ⟨oN,hoN⟩ := hoN
       have := ht.before hcl hoN (hcl N oN hoN hN) _ i hiN (Nat.le_refl _)
       rw [h2] at this; cases this
     · have hi2 : i = N \/ i = N + 1 := by omega
       rcases hi2 with rfl | rfl
       · rw [h2] at hN; cases hN
       · refine wpOpIn_mono (fun a' w' h => ?_) hK
         exact ⟨hcl', .inr (.inr ⟨by rw [hsetD,if_pos rfl],h⟩)⟩
   · have hN : listed.getD N false = true := by
       obtain ⟨o',ho',e,he,heN,hb⟩ := ht.last
       have := hcl (N + 1) o' ho' hN1 e he hb
       rwa [heN] at this
     rcases Nat.lt_or_ge i N with hiN | hiN
     · have hoN : ∃ o,ops[N]? = some o := ⟨ops[N]'(by omega),Array.getElem?_eq_getElem (by omega)⟩
       obtain ⟨oN,hoN⟩ := hoN
       have := ht.before hcl hoN (hcl N oN hoN hN) _ i hiN (Nat.le_refl _)
       rw [h2] at this; cases this
     · have hi2 : i = N \/ i = N + 1 := by omega
       rcases hi2 with rfl | rfl
       · rw [h2] at hN; cases hN
       · rw [h2] at hN1; cases hN1
 · rintro listed a w hls ⟨hcl,hI⟩ hr
   have hready : ∀ i,i < ops.size -> listed.getD i false = true := by
     intro i
     induction i using Nat.strongRecOn with
     | _ i ih =>
       intro hi
       rcases hl : listed.getD i false with _ | _
       · have hmem : i ∈ Region.ready .any ops listed := by
           simp only [Region.ready,List.mem_filter,List.mem_range,Bool.and_eq_true,Bool.not_eq_true']
           refine ⟨hi,by rw [getD_true_false (by omega)]; exact hl, ?_⟩
           rw [Array.getElem?_eq_getElem hi]
           simp only [Option.map_some,Option.getD_some]
           rw [Array.all_eq_true_iff_forall_mem]
           intro e he
           have hlt := ht.lex i _ (Array.getElem?_eq_getElem hi) e (by simpa using he)
           simp [ih e.on hlt (by omega)]
         rw [hr] at hmem; cases hmem
       · rfl
   rcases hI with ⟨hN,_⟩ | ⟨_,hN1,_⟩ | ⟨_,hQ⟩
   · rw [hready N (by omega)] at hN; cases hN
   · rw [hready (N + 1) (by omega)] at hN1; cases hN1
   · exact hQ
 · simp
 · have : (Array.replicate ops.size false).getD i false = false := by
     simp only [Array.getD_eq_getD_getElem?,Array.getElem?_replicate]; split <;> rfl
   rw [this] at h; cases h
 · simp only [Array.getD_eq_getD_getElem?,Array.getElem?_replicate]; split <;> rfl
 · simp only [Array.getD_eq_getD_getElem?,Array.getElem?_replicate]; split <;> rfl
 · have : (Array.replicate ops.size false).getD i false = false := by
     simp only [Array.getD_eq_getD_getElem?,Array.getElem?_replicate]; split <;> rfl
   rw [this] at h; cases h
end
end
theorem Same.frame {a0 a : Act} {lo N : Nat} (h : Same a0 lo N a) (hsz : lo + N <= a0.tmps.size) :
   a = { tmps := (a0.tmps.toList.take lo ++ (List.range N).map (fun i => a.tmps.getD (lo + i) undef) ++ a0.tmps.toList.drop (lo + N)).toArray,defers := a0.defers } := by
 obtain ⟨t,d⟩ := a
 have hd := h.defers
 have hs := h.size
 simp only at hd hs
 subst hd
 congr 1
 apply Array.ext'
 apply List.ext_getElem?
 intro k
 have hg : ∀ j,j < t.size -> t.toList[j]? = some (t.getD j undef) := fun j hj => by simp [Array.getD,hj]
 have hg0 : ∀ j,j < a0.tmps.size -> a0.tmps.toList[j]? = some (a0.tmps.getD j undef) := fun j hj => by simp [Array.getD,hj]
 rcases Nat.lt_or_ge k t.size with hk | hk
 · rw [hg k hk]
   rcases Nat.lt_or_ge k lo with h1 | h1
   · rw [List.getElem?_append_left (by simp; omega),List.getElem?_append_left (by simp; omega),List.getElem?_take,if_pos h1,hg0 k (by omega),h.out k (.inl h1)]
   · rcases Nat.lt_or_ge k (lo + N) with h2 | h2
     · rw [List.getElem?_append_left (by simp; omega),List.getElem?_append_right (by simp; omega)]
       have e : min lo a0.tmps.size = lo := by omega
       simp [e,List.getElem?_map,List.getElem?_range (show k - lo < N by omega),show lo + (k - lo) = k by omega]
     · rw [List.getElem?_append_right (by simp; omega)]
       have e : min lo a0.tmps.size = lo := by omega
       simp only [List.length_append,List.length_take,List.length_map,List.length_range,Array.length_toList,e,List.getElem?_drop]
       rw [show lo + N + (k - (lo + N)) = k by omega,hg0 k (by omega),h.out k (.inr h2)]
 · rw [List.getElem?_eq_none (by simpa using hk),List.getElem?_eq_none (by simp; omega)]
section
variable {o : Oper} {a : Act} {w w' : World} {n l : Nat} {next : Act -> World -> Prop} {Q : Exit -> Act -> World -> Prop} {v : Value}
theorem wpR_val (hnc : ∀ c,o.op ≠ .defer c) (hrun : (execOp a.eval o).run Tryz.prog w = .ok (.value v) w') (h : next (a.put o.dst v) w') : o.wpIn (Fence.wide.inRound l) n Tryz.prog a w next Q :=
 ⟨fun _ _ => trivial,by rw [show (Fence.wide.inRound l).round = some l from rfl,Oper.semAt_eq _ _ _ (fun c h => hnc c h),hrun]; exact h⟩
theorem wpR_call {f : FuncId} {args : Array Value} {R : Value -> World -> Prop} (hnc : ∀ c,o.op ≠ .defer c) (hrun : (execOp a.eval o).run Tryz.prog w = .ok (.enter f args) w')
   (hc : Calls Tryz.prog f args w' fun e w'' => ∃ v,e = .returned v /\ R v w'') (h : ∀ v w'',R v w'' -> next (a.put o.dst v) w'') : o.wpIn (Fence.wide.inRound l) n Tryz.prog a w next Q :=
 ⟨fun _ _ => trivial,by
   rw [show (Fence.wide.inRound l).round = some l from rfl,Oper.semAt_eq _ _ _ (fun c h => hnc c h),hrun]
   refine ⟨fun hh => by simp [Fence.inRound,Fence.wide] at hh, ?_⟩
   show CallsIn Fence.wide _ _ _ _ _ _
   refine callsIn_wide.2 (hc.mono ?_)
   rintro e w'' ⟨v,rfl,hR⟩
   exact h v w'' hR⟩
theorem r_fld {T i : Nat} (x : Operand) (ad : Value) (ho : o.op = .fieldAddr T x i) (hx : a.eval x = ad) (hf : (Instr.fieldAt T ad i).run Tryz.prog w = .ok v w) : (execOp a.eval o).run Tryz.prog w = .ok (.value v) w := by
 unfold execOp; simp only [ho,hx,Sem.run_bind,hf,Result.andThen_ok]; rfl
theorem r_call2 {f : FuncId} (x y : Operand) (u v : Value) (T : Array TypeId) (ho : o.op = .call { callee := .value (.func f),args := #[x,y],argTypes := T }) (hx : a.eval x = u) (hy : a.eval y = v)
   (he : ∀ args w,(callFunc f args).run Tryz.prog w = .ok (.enter f args) w) : (execOp a.eval o).run Tryz.prog w = .ok (.enter f #[u,v]) w := by
 have hf : a.eval (.func f) = .func (.func f) #[] #[] := rfl
 unfold execOp
 simp only [ho,resolve,List.map_toArray,List.map_cons,List.map_nil,hx,hy,hf]
 simp [go_sem,he]
theorem r_call3 {f : FuncId} (x y z : Operand) (u v q : Value) (T : Array TypeId) (ho : o.op = .call { callee := .value (.func f),args := #[x,y,z],argTypes := T }) (hx : a.eval x = u) (hy : a.eval y = v) (hz : a.eval z = q)
   (he : ∀ args w,(callFunc f args).run Tryz.prog w = .ok (.enter f args) w) : (execOp a.eval o).run Tryz.prog w = .ok (.enter f #[u,v,q]) w := by
 have hf : a.eval (.func f) = .func (.func f) #[] #[] := rfl
 unfold execOp
 simp only [ho,resolve,List.map_toArray,List.map_cons,List.map_nil,hx,hy,hz,hf]
 simp [go_sem,he]
theorem r_loadAt (T : TypeId) (x : Operand) (p u : Value) (ho : o.op = .load T x) (hx : a.eval x = p) (hr : (Instr.loadAt T p).run Tryz.prog w = .ok u w) : (execOp a.eval o).run Tryz.prog w = .ok (.value u) w := by
 unfold execOp
 simp only [ho,hx,Sem.run_bind,hr,Result.andThen_ok]
 rfl
end
end Go.Proofs
namespace Go.Proofs
open Go.RowKit Go.Shelf Go.Proofs.Ct Go.Maps
attribute [local simp,local go_sem] wide_fn wide_depth
attribute [local go_sem] Oper.semAt_some
section
variable {o : Oper} {a : Act} {w w' : World} {n : Nat} {Q : Exit -> Act -> World -> Prop} {v : Value}
end
theorem wpOpIn_of {F : Fence} {n : Nat} {P : Program} {ops : Array Oper} {Q : Exit -> Act -> World -> Prop} {i : Nat} {o : Oper} {K : Act -> World -> Prop} {a : Act} {w : World} (ho : ops[i]? = some o) (hg : o.guard = none) (h : o.wpIn F n P a w K Q) : wpOpIn F n P ops Q i K a w := by
 unfold wpOpIn
 rw [ho]
 simp only [Region.wanted,hg,if_true]
 exact h
theorem r_assign {o : Oper} {a : Act} {w : World} {v : Value} (x : Operand) (ho : o.op = .assign x) (hx : a.eval x = v) : (execOp a.eval o).run Tryz.prog w = .ok (.value v) w := by
 unfold execOp; simp only [ho,hx]; rfl
end Go.Proofs
namespace Go.Proofs
open Go.RowKit Go.Shelf Go.Proofs.Ct Go.Proofs.Tz Go.Maps
attribute [local simp,local go_sem] wideF wideD
attribute [local go_sem] Oper.semAt_some
section
variable {o : Oper} {a : Act} {w w' : World} {n : Nat} {next : Act -> World -> Prop} {Q : Exit -> Act -> World -> Prop} {v : Value}
theorem wpF_val (hrun : (execOp a.eval o).run Tryz.prog w = .ok (.value v) w') (h : next (a.put o.dst v) w') : o.wpIn Fence.wide n Tryz.prog a w next Q :=
 ⟨fun _ _ => trivial,by rw [Fence.wide_round,Oper.semAt_none,hrun]; exact h⟩
theorem wpF_call {f : FuncId} {args : Array Value} {R : Value -> World -> Prop} (hrun : (execOp a.eval o).run Tryz.prog w = .ok (.enter f args) w')
   (hc : Calls Tryz.prog f args w' fun e w'' => ∃ v,e = .returned v /\ R v w'') (h : ∀ v w'',R v w'' -> next (a.put o.dst v) w'') : o.wpIn Fence.wide n Tryz.prog a w next Q :=
 ⟨fun _ _ => trivial,by
   rw [Fence.wide_round,Oper.semAt_none,hrun]
   refine ⟨fun hh => by simp at hh,callsIn_wide.2 (hc.mono ?_)⟩
   rintro e w'' ⟨v,rfl,hR⟩
   exact h v w'' hR⟩
theorem agg24w (w : World) : (isAgg 36).run Tryz.prog w = .ok false w := by kernel_rfl
theorem r_ld24 (x : Operand) (ad : Addr) (ho : o.op = .load 36 x) (hx : a.eval x = .pointer (some ad)) (hc : w.cell? ad = some v) : (execOp a.eval o).run Tryz.prog w = .ok (.value v) w := by
 unfold execOp
 simp only [ho,hx,Instr.loadAt,Instr.sureAddr,loadVar,Sem.run_bind,Sem.run_pure,Result.andThen_ok,agg24w]
 simp [go_sem,hc]
theorem run_sl_hi {t : TypeId} (hu : Tryz.prog.underlying t = some (.slice (Tryz.prog.elem t))) (hs : ∀ w,(Go.sizeOf (Tryz.prog.elem t)).run Tryz.prog w = .ok 1 w) (x z : Operand) (A : Option Addr) (n c h : Nat) (ho : o.op = .slice t x none (some z) none) (hx : a.eval x = .slice A n c) (hz : a.eval z = .int .i64 (h : Int)) (hc : h <= c) : (execOp a.eval o).run Tryz.prog w = .ok (.value (sliced A 0 h c 1)) w := by
 have hs := hs w
 unfold execOp
 simp only [ho,hx,hz,Option.map_none,Option.map_some,Sem.run_bind,run_sliceAt_slice w t _ _ _ _ hu,run_slice_h w t A n c hu .i64 (h : Int) (by omega) (by omega)]
 simp [hs]
theorem bs25_2 (A B : Option Addr) (n c m d : Nat) (w : World) : (Instr.buildSlice 22 2 #[(0, .slice A n c),(1, .slice B m d)]).run Tryz.prog w = .ok (.slice (some ⟨w.heap.size,0,none⟩) 2 2) (w.alloc (.cells #[.slice A n c, .slice B m d] 36)) := by kernel_rfl
theorem r_bs25 (x y : Operand) (A B : Option Addr) (n c m d : Nat) (ho : o.op = .buildSlice 22 2 #[(0,x),(1,y)]) (hx : a.eval x = .slice A n c) (hy : a.eval y = .slice B m d) : (execOp a.eval o).run Tryz.prog w = .ok (.value (.slice (some ⟨w.heap.size,0,none⟩) 2 2)) (w.alloc (.cells #[.slice A n c, .slice B m d] 36)) := by
 have hb := bs25_2 A B n c m d w
 unfold execOp
 simp only [ho,List.map_toArray,List.map_cons,List.map_nil,hx,hy,Sem.run_bind,hb,Result.andThen_ok]
 rfl
theorem r_call1 {f : FuncId} (x : Operand) (u : Value) (T : Array TypeId) (ho : o.op = .call { callee := .value (.func f),args := #[x],argTypes := T }) (hx : a.eval x = u)
   (he : ∀ args w,(callFunc f args).run Tryz.prog w = .ok (.enter f args) w) : (execOp a.eval o).run Tryz.prog w = .ok (.enter f #[u]) w := by
 have hf : a.eval (.func f) = .func (.func f) #[] #[] := rfl
 unfold execOp
 simp only [ho,resolve,List.map_toArray,List.map_cons,List.map_nil,hx,hf]
 simp [go_sem,he]
end
theorem r_not {o : Oper} {a : Act} {w : World} (x : Operand) (b : Bool) (ho : o.op = .unOp .not 4 x) (hx : a.eval x = .bool b) : (execOp a.eval o).run Tryz.prog w = .ok (.value (.bool (!b))) w := by
 unfold execOp
 simp only [ho,hx]
 simp [go_sem]
theorem call39 (args : Array Value) (w : World) : (callFunc 67 args).run Tryz.prog w = .ok (.enter 67 args) w := enters_of Tryz.func67 (by kernel_rfl) rfl args w
def FreshW (B : Nat) (x : Value) (u : List Int) (W : World) : Prop := ∃ A c,x = .slice A u.length c /\ OwnI B W x u
set_option maxRecDepth 100000 in
set_option maxHeartbeats 2000000 in
theorem rot73 (n l bw B : Nat) (J Jx : Nat -> World -> Prop) (W w0 : World) (A : Option Addr) (c : Nat) (v : List Int)
   (hbox : w0.heap[bw]? = some (.cells #[.slice A v.length c] 36 (0,0))) (hv : IntsAt w0 (.slice A v.length c) v) (hl : v.length <= 1000000) (hW : Below w0.heap.size w0 W) (hB : B <= W.heap.size)
   (hJa : ∀ k A B,J k A -> Below A.heap.size A B -> J k B)
   (hY : ∀ k x W1,J k W1 -> k < v.length -> FreshW B x (rot v k) W1 -> YieldAt Fence.wide (n - 1) Tryz.prog l #[x] W1 fun e W' => (e = .returned (.bool true) /\ J (k + 1) W' /\ Below w0.heap.size W1 W') \/ (e = .returned (.bool false) /\ Jx (k + 1) W'))
   (h0 : J 0 W) :
   CallsIn Fence.wide n Tryz.prog 120 #[.func (.yield l) #[] #[], .pointer (some ⟨bw,0,none⟩)] W fun e W' => (∃ v,e = .returned v) /\ (J v.length W' \/ ∃ k,Jx k W') := by
 have HJA := Lib.hid hJa
 have HY := Lib.hid hY
 have H0 := Lib.hid h0
 have HV := Lib.hid hv
 have HBX := Lib.hid hbox
 have HW := Lib.hid hW
 have HBB := Lib.hid hB
 have hcb : W.cell? ⟨bw,0,none⟩ = some (.slice A v.length c) := by
   rw [hW.cell (World.block_lt_of_cell? w0 _ (show w0.cell? ⟨bw,0,none⟩ = some (.slice A v.length c) by rw [cell_of_row _ _ _ _ _ _ hbox]; rfl)),cell_of_row _ _ _ _ _ _ hbox]; rfl
 have HL := Lib.hid hl
 have hl1 : (v.length : Int) <= 1000000 := by omega
 have hl0 : (0 : Int) <= (v.length : Int) := Int.natCast_nonneg _
 clear hJa hY h0 hv hbox hW hl hB
 gi_enter Tryz.func120,Tryz.ntmps120
 gi_wp2_with fail
 gi_loopw [6] (fun i wr => ∃ k : Nat,i = .int .i64 k /\ k <= v.length /\ Hid (J k wr /\ Below w0.heap.size w0 wr /\ B <= wr.heap.size)) (fun i _ => v.length - (intOf i).toNat)
 case atStart => exact ⟨0,rfl,by omega,Lib.hid ⟨H0.out,HW.out,HBB.out⟩⟩
 case round =>
   obtain ⟨k,rfl,hk,HS⟩ := hrel
   have hk0 : (0 : Int) <= (k : Int) := Int.natCast_nonneg _
   by_cases hlt : k < v.length
   · have hlt' : (k : Int) < (v.length : Int) := by omega
     have hcap : v.length <= c := by
       obtain ⟨A',c',e1,h5, -, -⟩ := HV.out.open_
       injection e1 with e1 e2 e3
       omega
     have hbl : bw < w0.heap.size := (Array.getElem?_eq_some_iff.1 HBX.out).1
     have HC2 : Hid (∀ w',Below w0.heap.size w0 w' -> w'.cell? ⟨bw,0,none⟩ = some (.slice A v.length c)) := Lib.hid fun w' h => by
       rw [cell_of_row _ _ _ _ _ _ ((h.block bw hbl).trans HBX.out)]; rfl
     obtain ⟨A1,hs1,hi1⟩ := ints_cut (k := k) (h := v.length) HV.out hk (Nat.le_refl _)
     obtain ⟨A2,hs2,hi2⟩ := ints_cut (k := 0) (h := k) HV.out (Nat.zero_le _) hk
     rw [List.take_length] at hi1
     rw [List.drop_zero,Nat.sub_zero,Nat.sub_zero] at hi2
     rw [Nat.sub_zero,Nat.sub_zero] at hs2
     have HS1 := Lib.hid hs1
     have HS2 := Lib.hid hs2
     have HI1 := Lib.hid hi1
     have HI2 := Lib.hid hi2
     have HCAT : Hid (∀ (w' : World) (u : Value),Tab w' u [v.drop k,v.take k] -> B <= w'.heap.size -> Calls Tryz.prog 67 #[u] w' fun e w'' => ∃ x,e = .returned x /\ FreshW B x (rot v k) w'' /\ Below w'.heap.size w' w'') := Lib.hid fun w' u htab hB => by
       refine (concat100_any _ _ _ htab (by simp [sumTo,Ct.foldTo]; have := HL.out; omega)).mono fun e w'' (⟨A,c,h1,h2,h3⟩ : CatPost _ _ e w'') => ⟨_,h1, ?_,h3⟩
       have e1 : flatTo [v.drop k,v.take k] [v.drop k,v.take k].length = rot v k := by simp [flatTo,Ct.foldTo,Tz.rot]
       rw [e1] at h2
       rw [e1]
       exact ⟨A,c,rfl,owns_base h2 hB⟩
     have HPAIR : Hid (∀ w' : World,Below w0.heap.size w0 w' -> Tab (w'.alloc (.cells #[.slice A1 (v.length - k) (c - k), .slice A2 k c] 36)) (.slice (some ⟨w'.heap.size,0,none⟩) 2 2) [v.drop k,v.take k]) := Lib.hid fun w' h => by
       have h1 := HI1.out.below h
       have h2 := HI2.out.below h
       have := tab_two w' _ _ _ _ h1 h2 (e := 36)
       exact this
     clear hs1 hs2 hi1 hi2
     gi_wp2_with fail
     refine wpIn_region_tail (by kernel_rfl) 9 9 (tailed_of (by kernel_rfl)) (fun w' => Below w0.heap.size w0 w' /\ B <= w'.heap.size /\ Below wr.heap.size wr w')
       (fun q u W' => if q = 7 then Tab W' u [v.drop k,v.take k] else if q = 8 then FreshW B u (rot v k) W' else u = [Value.func (.yield l) #[] #[], .slice A v.length c, .int .i64 k, .slice A1 (v.length - k) (c - k), .slice A v.length c, .int .i64 k, .slice A2 k c].getD q undef)
       (fun w w' => Below w.heap.size w w') ?_ (Nat.le_of_ble_eq_true rfl) ⟨HS.out.2.1.drew,HS.out.2.2,(Below.refl _ _).drew⟩ ?_ ?_
     · intro q u W' W'' hb hq
       split at hq
       · rw [if_pos (by assumption)]; exact kept_tab.below hq hb
       · rw [if_neg (by assumption)]
         split at hq
         · rw [if_pos (by assumption)]
           obtain ⟨A3,c3,h1,h2⟩ := hq
           exact ⟨A3,c3,h1,owns_below h2 hb⟩
         · rw [if_neg (by assumption)]; exact hq
     · intro q o a w4 hq ho hS hsame hpre
       have hcases : q = 0 \/ q = 1 \/ q = 2 \/ q = 3 \/ q = 4 \/ q = 5 \/ q = 6 \/ q = 7 \/ q = 8 := by omega
       have hst : ∀ w5,Below w4.heap.size w4 w5 -> (Below w0.heap.size w0 w5 /\ B <= w5.heap.size /\ Below wr.heap.size wr w5) := fun w5 hb => ⟨hS.1.trans (hb.mono hS.1.size),Nat.le_trans hS.2.1 hb.size,hS.2.2.trans (hb.mono hS.2.2.size)⟩
       rcases hcases with rfl | rfl | rfl | rfl | rfl | rfl | rfl | rfl | rfl
       · obtain rfl := Option.some.inj ho; exact ⟨rfl,rfl,(by exact wpF_val (r_move (.tmp 0) rfl (hsame.out 0 (.inl (by decide)))) ⟨_,rfl,hS,Below.refl _ _,rfl⟩)⟩
       · obtain rfl := Option.some.inj ho; exact ⟨rfl,rfl,(by exact wpF_val (r_ld24 (.tmp 1) ⟨bw,0,none⟩ rfl (hsame.out 1 (.inl (by decide))) (HC2.out _ hS.1)) ⟨_,rfl,hS,Below.refl _ _,rfl⟩)⟩
       · obtain rfl := Option.some.inj ho; exact ⟨rfl,rfl,(by exact wpF_val (r_move (.tmp 3) rfl (hsame.out 3 (.inl (by decide)))) ⟨_,rfl,hS,Below.refl _ _,rfl⟩)⟩
       · obtain rfl := Option.some.inj ho; exact ⟨rfl,rfl,(by exact wpF_val (run_sl_lo under24w size24w (.tmp 10) (.tmp 11) A v.length c k rfl (hpre ⟨1, .data⟩ (by simp) rfl) (hpre ⟨2, .data⟩ (by simp) rfl) hk) ⟨_,rfl,hS,Below.refl _ _,HS1.out⟩)⟩
       · obtain rfl := Option.some.inj ho; exact ⟨rfl,rfl,(by exact wpF_val (r_ld24 (.tmp 1) ⟨bw,0,none⟩ rfl (hsame.out 1 (.inl (by decide))) (HC2.out _ hS.1)) ⟨_,rfl,hS,Below.refl _ _,rfl⟩)⟩
       · obtain rfl := Option.some.inj ho; exact ⟨rfl,rfl,(by exact wpF_val (r_move (.tmp 3) rfl (hsame.out 3 (.inl (by decide)))) ⟨_,rfl,hS,Below.refl _ _,rfl⟩)⟩
       · obtain rfl := Option.some.inj ho; exact ⟨rfl,rfl,(by exact wpF_val (run_sl_hi under24w size24w (.tmp 13) (.tmp 14) A v.length c k rfl (hpre ⟨4, .data⟩ (by simp) rfl) (hpre ⟨5, .data⟩ (by simp) rfl) (by omega)) ⟨_,rfl,hS,Below.refl _ _,HS2.out⟩)⟩
       · obtain rfl := Option.some.inj ho; exact ⟨rfl,rfl,(by exact wpF_val (r_bs25 (.tmp 12) (.tmp 15) A1 A2 _ _ _ _ rfl (hpre ⟨3, .data⟩ (by simp) rfl) (hpre ⟨6, .data⟩ (by simp) rfl)) ⟨_,rfl,hst _ ((Below.refl _ _).alloc (Nat.le_refl _) _),(Below.refl _ _).alloc (Nat.le_refl _) _,HPAIR.out _ hS.1⟩)⟩
       · obtain rfl := Option.some.inj ho; exact ⟨rfl,rfl,(by exact wpF_call (r_call1 (.tmp 16) _ _ rfl rfl call39) (HCAT.out w4 _ (hpre ⟨7, .data⟩ (by simp) rfl) hS.2.1) (fun u w5 h => ⟨u,rfl,hst _ h.2,h.2,h.1⟩))⟩
     · intro a W2 hS hsame hsl
       have e0 : a.tmps.getD 9 undef = .func (.yield l) #[] #[] := hsl 0 (by omega)
       obtain ⟨x,hx⟩ : ∃ x,x = a.tmps.getD 17 undef := ⟨_,rfl⟩
       have e8 : FreshW B x (rot v k) W2 := by rw [hx]; exact hsl 8 (by omega)
       have hj2 : J k W2 := HJA.out _ _ _ HS.out.1 hS.2.2
       obtain ⟨fn,tmps,assign,body,hy,hR⟩ := HY.out k x W2 hj2 hlt e8
       have HSS := Lib.hid hS
       have hfr := hsame.frame (Nat.le_of_ble_eq_true rfl)
       refine wpOpIn_of rfl rfl ⟨fun _ _ => trivial, ?_⟩
       rw [Fence.wide_round,Oper.semAt_none]
       have hrun : ∀ o : Oper,o.op = .call { callee := .value (.tmp 9),args := #[.tmp 17],argTypes := #[36] } -> (execOp a.eval o).run Tryz.prog W2 = .ok (.round l fn tmps assign body) W2 := fun o ho => by
         unfold execOp
         have h1 : a.eval (.tmp 9) = .func (.yield l) #[] #[] := e0
         have h2 : a.eval (.tmp 17) = x := hx.symm
         simp only [ho,resolve,List.map_toArray,List.map_cons,List.map_nil,h1,h2]
         simp [go_sem,hy]
       rw [hrun _ rfl]
       refine ⟨fun hh => by simp at hh,hR.mono ?_⟩
       rintro e W3 (⟨rfl,hj,hkp⟩ | ⟨rfl,hj⟩)
       · refine wpOpIn_of rfl rfl (wpF_val (r_not (.tmp 18) true rfl (put_getD_same _ _ _ (by rw [hsame.size]; exact Nat.le_of_ble_eq_true rfl))) ?_)
         have HS3 := Lib.hid (show J (k + 1) W3 /\ Below w0.heap.size w0 W3 /\ B <= W3.heap.size from ⟨hj,HSS.out.1.trans hkp,Nat.le_trans HSS.out.2.1 hkp.size⟩)
         clear hS hsl e0 e8 hj2 hy hR hrun hj hkp hx HSS
         generalize (fun i => a.tmps.getD (9 + i) undef) = vs at hfr
         subst hfr
         simp only [Act.put,List.take_succ_cons,List.take_zero,List.drop_succ_cons,List.drop_zero,List.map_cons,List.map_nil,List.range,List.range.loop,List.cons_append,List.nil_append,List.setIfInBounds_toArray,Nat.reduceAdd]
         gi_wp2_with fail
         exact ⟨⟨k + 1,by go_num,by omega,HS3⟩,by simp [intOf]; omega⟩
       · refine wpOpIn_of rfl rfl (wpF_val (r_not (.tmp 18) false rfl (put_getD_same _ _ _ (by rw [hsame.size]; exact Nat.le_of_ble_eq_true rfl))) ?_)
         have HJX := Lib.hid hj
         clear hS hsl e0 e8 hj2 hy hR hrun hj hx HSS
         generalize (fun i => a.tmps.getD (9 + i) undef) = vs at hfr
         subst hfr
         simp only [Act.put,List.take_succ_cons,List.take_zero,List.drop_succ_cons,List.drop_zero,List.map_cons,List.map_nil,List.range,List.range.loop,List.cons_append,List.nil_append,List.setIfInBounds_toArray,Nat.reduceAdd]
         gi_wp2_with fail
         exact bodyPost_ret (results_none rfl _ _ _) rfl ⟨⟨_,rfl⟩, .inr ⟨_,HJX.out⟩⟩
   · have hlt' : ¬ (k : Int) < (v.length : Int) := by omega
     have hke : k = v.length := by omega
     subst hke
     gi_wp2_with fail
     go_end0
     exact ⟨⟨_,rfl⟩, .inl HS.out.1⟩
end Go.Proofs
namespace Go.Proofs.Ct
inductive Root (P : List Int) : Nat -> Nat -> Prop where
 | here {x : Nat} (h : P.getD x 0 = (x : Int)) : Root P x x
 | up {x y r : Nat} (h : P.getD x 0 = (y : Int)) (hl : y < x) (hr : Root P y r) : Root P x r
theorem Root.le {P : List Int} {x r : Nat} (h : Root P x r) : r <= x := by
 induction h with
 | here => exact Nat.le_refl _
 | up _ hl _ ih => omega
theorem Root.self {P : List Int} {x r : Nat} (h : Root P x r) : P.getD r 0 = (r : Int) := by
 induction h with
 | here h => exact h
 | up _ _ _ ih => exact ih
theorem Root.unique {P : List Int} {x r r' : Nat} (h : Root P x r) (h' : Root P x r') : r = r' := by
 induction h with
 | here h =>
   cases h' with
   | here => rfl
   | up h2 hl _ => omega
 | @up x y _ h hl hr ih =>
   cases h' with
   | here h2 => omega
   | @up _ y' _ h2 hl2 hr2 =>
     obtain rfl : y = y' := by omega
     exact ih hr2
theorem getD_set_of {l : List Int} {k j : Nat} {v : Int} (hk : k < l.length) : (l.set k v).getD j 0 = if k = j then v else l.getD j 0 := by
 rw [List.getD_eq_getElem?_getD,List.getElem?_set,List.getD_eq_getElem?_getD]
 by_cases h : k = j
 · subst h; simp [hk]
 · simp [h]
theorem Root.short {P : List Int} {c q : Nat} (hc : Root P c q) (hcl : c < P.length) {x r : Nat} (h : Root P x r) : Root (P.set c (q : Int)) x r := by
 have hq := hc.self
 have hql := hc.le
 have hget : ∀ j,(P.set c (q : Int)).getD j 0 = if c = j then (q : Int) else P.getD j 0 := fun j => getD_set_of hcl
 have hrq : Root (P.set c (q : Int)) q q := .here (by
   rw [hget]
   split
   · rfl
   · exact hq)
 induction h with
 | @here x h =>
   refine .here ?_
   rw [hget]
   split
   · rename_i e
     subst e
     have := hc.unique (.here h)
     rw [this]
   · exact h
 | @up x y r h hl hr ih =>
   by_cases e : c = x
   · subst e
     have hr' := hc.unique (.up h hl hr)
     subst hr'
     have : q <= y := hr.le
     exact .up (y := q) (by rw [hget,if_pos rfl]) (by omega) hrq
   · exact .up (by rw [hget,if_neg e]; exact h) hl ih
theorem Root.link {P : List Int} {a b : Nat} (ha : P.getD a 0 = (a : Int)) (hb : P.getD b 0 = (b : Int)) (hba : b < a) (hal : a < P.length) {x r : Nat} (h : Root P x r) : Root (P.set a (b : Int)) x (if r = a then b else r) := by
 have hget : ∀ j,(P.set a (b : Int)).getD j 0 = if a = j then (b : Int) else P.getD j 0 := fun j => getD_set_of hal
 have hbb : Root (P.set a (b : Int)) b b := .here (by rw [hget,if_neg (by omega)]; exact hb)
 induction h with
 | @here x h =>
   by_cases e : x = a
   · subst e
     rw [if_pos rfl]
     exact .up (y := b) (by rw [hget,if_pos rfl]) hba hbb
   · rw [if_neg e]
     exact .here (by rw [hget,if_neg (fun h => e h.symm)]; exact h)
 | @up x y r h hl hr ih =>
   have e : a ≠ x := fun e => by subst e; omega
   exact .up (by rw [hget,if_neg e]; exact h) hl ih
theorem Root.more {P : List Int} {x r : Nat} (hx : x < P.length) (h : Root P x r) (z : Int) : Root (P ++ [z]) x r := by
 have hget : ∀ j,j < P.length -> (P ++ [z]).getD j 0 = P.getD j 0 := fun j hj => by simp [List.getD_eq_getElem?_getD,List.getElem?_append_left hj]
 induction h with
 | here h => exact .here (by rw [hget _ hx]; exact h)
 | up h hl hr ih => exact .up (by rw [hget _ hx]; exact h) hl (ih (by omega))
structure Roots (P : List Int) (s : St) : Prop where
 len : P.length = s.t.length
 root : ∀ x,x < s.t.length -> Root P x (s.rp x)
theorem Roots.short {P : List Int} {s : St} (h : Roots P s) {c : Nat} (hc : c < s.t.length) : Roots (P.set c (s.rp c : Int)) s :=
 ⟨by simpa using h.len,fun x hx => (h.root c hc).short (by rw [h.len]; exact hc) (h.root x hx)⟩
theorem Roots.merge {g : Nat} {P : List Int} {s : St} (hI : Inv g s) (h : Roots P s) {a b : Nat} (ha : a < s.t.length) (hb : b < s.t.length) (hne : s.rp a ≠ s.rp b) : Roots (P.set (max (s.rp a) (s.rp b)) ((min (s.rp a) (s.rp b) : Nat) : Int)) (mergeS s a b) := by
 have ht := t_merge s a b
 have hra := (h.root a ha).self
 have hrb := (h.root b hb).self
 have hla := hI.rlt ha
 have hlb := hI.rlt hb
 refine ⟨by rw [ht]; simpa using h.len,fun x hx => ?_⟩
 rw [ht] at hx
 rw [rp_merge hI ha hb hx]
 refine Root.link ?_ ?_ (by omega) (by rw [h.len]; omega) (h.root x hx)
 · rcases Nat.le_total (s.rp a) (s.rp b) with h' | h'
   · rw [Nat.max_eq_right h']; exact hrb
   · rw [Nat.max_eq_left h']; exact hra
 · rcases Nat.le_total (s.rp a) (s.rp b) with h' | h'
   · rw [Nat.min_eq_left h']; exact hra
   · rw [Nat.min_eq_right h']; exact hrb
theorem Roots.add {g : Nat} {P : List Int} {s : St} (hI : Inv g s) (h : Roots P s) (m : Nat) : Roots (P ++ [(s.t.length : Int)]) (addS m s) := by
 refine ⟨by rw [length_add]; simp [h.len],fun x hx => ?_⟩
 rw [length_add] at hx
 rcases Nat.lt_or_ge x s.t.length with h1 | h1
 · rw [rp_add_old hI m h1]
   exact (h.root x h1).more (by rw [h.len]; exact h1) _
 · obtain rfl : x = s.t.length := by omega
   rw [rp_add_new hI m]
   exact .here (by rw [<- h.len]; simp [List.getD_eq_getElem?_getD])
theorem Roots.of_rep {P : List Int} {s s' : St} (h : Roots P s) (hn : s'.t.length = s.t.length) (hr : s'.rep = s.rep) : Roots P s' :=
 ⟨by rw [hn]; exact h.len,fun x hx => by rw [hn] at hx; have := h.root x hx; unfold St.rp at this ⊢; rw [hr]; exact this⟩
end Go.Proofs.Ct
