/- Words for memory: slices that read as lists; slices of the call's own that grow; slices.IndexFunc and slices.ContainsFunc at a list of numbers, for a predicate that only reads; Coset tables, plainly: check, the standard table, representatives. No program in sight; Coset tables, plainly: the order of a table, standard tables, the lengths of representatives; The state of coset.Standard: the map of numbers, the order, the rows; its steps, as equations on runs; Rows of the call's own that grow; a list of numbers in one block; cayleyref18.Complete. -/
import Derived.WalkKit
import Derived.WalkSpells
import Derived.WalkLawsBesides
import Derived.Lib.Hide
import Derived.Deep.QuietTactic
import Derived.BigQuiet
import Derived.KernelRfl
import Derived.Shelf.Abstract
import Derived.Laws.AppendOwn
import Derived.Maps.AppendAt
import Derived.Maps.OwnSet
import Derived.Maps.OwnOps
import Derived.Deep.AppendSrc
import Derived.Test.YtmmbmhjdnlmedaaGreatProg
namespace Go.Proofs
open Go.RowKit
def Row (w : World) (b off : Nat) (vs : List Value) : Prop := ∀ j v,vs[j]? = some v -> w.cell? ⟨b,off + j,none⟩ = some v
def Sl (w : World) (v : Value) (vs : List Value) : Prop :=
 ∃ A n cap,v = .slice A n cap /\ n = vs.length /\ n <= cap /\ cap <= maxLen /\ (0 < n -> ∃ b off,A = some ⟨b,off,none⟩ /\ Row w b off vs)
def ints (xs : List Int) : List Value := xs.map (Value.int .i64)
def Fits (xs : List Int) : Prop := ∀ x ∈ xs, -9223372036854775808 <= x /\ x <= 9223372036854775807
def IntsAt (w : World) (v : Value) (xs : List Int) : Prop := Sl w v (ints xs) /\ Fits xs
section
variable {w w' : World} {v : Value} {vs : List Value}
theorem Row.lt {b off : Nat} (h : Row w b off vs) (hn : 0 < vs.length) : b < w.heap.size := by
 have := h 0 _ (List.getElem?_eq_getElem hn)
 exact World.block_lt_of_cell? w _ this
theorem Row.keep {b off : Nat} (h : Row w b off vs) (hk : ∀ p : Addr,p.block < w.heap.size -> w'.cell? p = w.cell? p) : Row w' b off vs := by
 intro j u hu
 have := h j u hu
 rw [hk _ (World.block_lt_of_cell? w _ this)]
 exact this
theorem Sl.keep (h : Sl w v vs) (hk : ∀ p : Addr,p.block < w.heap.size -> w'.cell? p = w.cell? p) : Sl w' v vs := by
 obtain ⟨A,n,cap,h1,h2,h3,h4,h5⟩ := h
 exact ⟨A,n,cap,h1,h2,h3,h4,fun hn => let ⟨b,off,ha,hr⟩ := h5 hn; ⟨b,off,ha,hr.keep hk⟩⟩
theorem Sl.below (h : Sl w v vs) (hb : Below w.heap.size w w') : Sl w' v vs := h.keep fun _ hp => hb.cell hp
theorem IntsAt.below {xs : List Int} (h : IntsAt w v xs) (hb : Below w.heap.size w w') : IntsAt w' v xs := ⟨h.1.below hb,h.2⟩
theorem Sl.drewN (h : Sl w v vs) (k : Nat) : Sl (w.drewN k) v vs := h
theorem IntsAt.drewN {xs : List Int} (h : IntsAt w v xs) (k : Nat) : IntsAt (w.drewN k) v xs := h
theorem IntsAt.open_ {xs : List Int} (h : IntsAt w v xs) : ∃ A cap,v = .slice A xs.length cap /\ xs.length <= cap /\ cap <= 9223372036854775807 /\
   (0 < xs.length -> ∃ b off,A = some ⟨b,off,none⟩ /\ ∀ k,k < xs.length -> w.cell? ⟨b,off + k,none⟩ = some (.int .i64 (xs.getD k 0))) := by
 obtain ⟨⟨A,n,cap,h1,h2,h3,h4,h5⟩,hf⟩ := h
 have hl : n = xs.length := by simpa [ints] using h2
 subst hl
 refine ⟨A,cap,h1,h3,by simpa [maxLen] using h4,fun hn => ?_⟩
 obtain ⟨b,off,ha,hr⟩ := h5 hn
 refine ⟨b,off,ha,fun k hk => hr k _ ?_⟩
 simp [ints,List.getElem?_map,List.getD_eq_getElem?_getD,List.getElem?_eq_getElem hk]
theorem Fits.at_ {xs : List Int} (h : Fits xs) (k : Nat) : -9223372036854775808 <= xs.getD k 0 /\ xs.getD k 0 <= 9223372036854775807 := by
 rw [List.getD_eq_getElem?_getD]
 rcases Nat.lt_or_ge k xs.length with hk | hk
 · rw [List.getElem?_eq_getElem hk]; exact h _ (List.getElem_mem hk)
 · rw [List.getElem?_eq_none hk]; simp
end
def LAt {α : Type} (R : World -> Value -> α -> Prop) (d : α) (w : World) (v : Value) (xs : List α) : Prop :=
 ∃ vs,Sl w v vs /\ vs.length = xs.length /\ ∀ i,i < xs.length -> ∃ u,vs[i]? = some u /\ R w u (xs.getD i d)
def Kept {α : Type} (R : World -> Value -> α -> Prop) : Prop := ∀ w w' v x,(∀ k,k < w.heap.size -> w'.heap[k]? = w.heap[k]?) -> R w v x -> R w' v x
theorem cell_blocks {w w' : World} (h : ∀ k,k < w.heap.size -> w'.heap[k]? = w.heap[k]?) (p : Addr) (hp : p.block < w.heap.size) : w'.cell? p = w.cell? p := World.cell?_of_block (h p.block hp)
theorem kept_ints : Kept IntsAt := fun _ _ _ _ hk h => ⟨h.1.keep (cell_blocks hk),h.2⟩
theorem kept_L {α : Type} {R : World -> Value -> α -> Prop} {d : α} (hR : Kept R) : Kept (LAt R d) := fun _w _w' _v _xs hk ⟨vs,h1,h2,h3⟩ =>
 ⟨vs,h1.keep (cell_blocks hk),h2,fun i hi => let ⟨u,hu,hr⟩ := h3 i hi; ⟨u,hu,hR _ _ _ _ hk hr⟩⟩
abbrev Tab := LAt IntsAt []
theorem kept_tab : Kept Tab := kept_L kept_ints
theorem Kept.below {α : Type} {R : World -> Value -> α -> Prop} (hR : Kept R) {w w' : World} {v : Value} {x : α} (h : R w v x) (hb : Below w.heap.size w w') : R w' v x := hR _ _ _ _ hb.block h
theorem LAt.open_ {α : Type} {R : World -> Value -> α -> Prop} {d : α} {w : World} {v : Value} {xs : List α} (h : LAt R d w v xs) : ∃ A cap,v = .slice A xs.length cap /\ xs.length <= cap /\ cap <= 9223372036854775807 /\
   (0 < xs.length -> ∃ b off,A = some ⟨b,off,none⟩ /\ ∀ k,k < xs.length -> ∃ u,w.cell? ⟨b,off + k,none⟩ = some u /\ R w u (xs.getD k d)) := by
 obtain ⟨vs,⟨A,n,cap,h1,h2,h3,h4,h5⟩,hl,he⟩ := h
 have hn : n = xs.length := h2.trans hl
 subst hn
 refine ⟨A,cap,h1,h3,by simpa [maxLen] using h4,fun hn => ?_⟩
 obtain ⟨b,off,ha,hr⟩ := h5 hn
 refine ⟨b,off,ha,fun k hk => ?_⟩
 obtain ⟨u,hu,hru⟩ := he k hk
 exact ⟨u,hr k u hu,hru⟩
theorem quiet_add_left {P : Program} {f : FuncId} {args : Array Value} {w : World} {a n : Nat} {v : Value}
   (h : Calls P f args (w.drewN (a + n)) fun e w' => e = .returned v /\ w.drewN (a + n) = w') :
   Calls P f args (w.drewN (a + n)) fun e w'' => e = .returned v /\ ∃ m,w'' = w.drewN (a + m) :=
 h.mono fun _ _ ⟨he,hm⟩ => ⟨he,n,hm.symm⟩
theorem quiet_left {P : Program} {f : FuncId} {args : Array Value} {w : World} {n : Nat} {v : Value}
   (h : Calls P f args (w.drewN n) fun e w' => e = .returned v /\ w.drewN n = w') : Calls P f args (w.drewN n) fun e w'' => e = .returned v /\ ∃ m,w'' = w.drewN m :=
 h.mono fun _ _ ⟨he,hm⟩ => ⟨he,n,hm.symm⟩
theorem ret_bool {a b : Bool} (h : a = b) : Ending.returned (.bool a) = Ending.returned (.bool b) := by rw [h]
theorem ret_int {k : IntKind} {a b : Int} (h : a = b) : Ending.returned (.int k a) = Ending.returned (.int k b) := by rw [h]
theorem ret_pair {k l : IntKind} {a b c d : Int} (h : a = c) (h' : b = d) : Ending.returned (.tuple #[.int k a, .int l b]) = Ending.returned (.tuple #[.int k c, .int l d]) := by rw [h,h']
theorem below_drewN {B : Nat} {a w : World} (h : Below B a w) (n : Nat) : Below B a (w.drewN n) := ⟨h.os,h.tape,h.output,h.size,h.block⟩
theorem ints_app (a b : List Int) : ints (a ++ b) = ints a ++ ints b := by simp [ints]
theorem length_ints (a : List Int) : (ints a).length = a.length := by simp [ints]
theorem getD_ext {α : Type} {d : α} {A B : List α} (hl : A.length = B.length) (h : ∀ k,k < A.length -> A.getD k d = B.getD k d) : A = B := by
 apply List.ext_getElem hl
 intro i h1 h2
 have := h i h1
 simpa [List.getD_eq_getElem?_getD,h1,h2] using this
theorem getD_ne {α : Type} {d : α} {A B : List α} {k : Nat} (h : A.getD k d ≠ B.getD k d) : A ≠ B := fun e => h (by rw [e])
theorem ex_drewN {w : World} {n m : Nat} : ∃ q,(w.drewN n).drewN m = w.drewN q := ⟨_,World.drewN_drewN _ _ _⟩
theorem all_succ {p : Nat -> Prop} {k : Nat} (h : ∀ j,j < k -> p j) (hk : p k) : ∀ j,j < k + 1 -> p j := fun j hj => by
 rcases Nat.lt_or_ge j k with h1 | h1
 · exact h j h1
 · obtain rfl : j = k := by omega
   exact hk
theorem tab_nil {w : World} : Tab w (.slice none 0 0) [] := ⟨[],⟨none,0,0,rfl,rfl,Nat.le_refl _,by simp [maxLen],fun h => absurd h (by omega)⟩,rfl,fun i hi => absurd hi (by simp)⟩
def allocs : World -> List Obj -> World
 | w, [] => w
 | w,o :: os => allocs (w.alloc o) os
theorem allocs_below : ∀ (os : List Obj) (w : World) (n : Nat),n <= w.heap.size -> Below n w (allocs w os)
 | [],_,_,_ => Below.refl _ _
 | o :: os,w,n,h => ((Below.refl n w).alloc h o).trans (allocs_below os (w.alloc o) n (by simp; omega))
theorem allocs_get : ∀ (os : List Obj) (w : World) (i : Nat) (o : Obj),os[i]? = some o -> (allocs w os).heap[w.heap.size + i]? = some o
 | [],_,_,_,h => by simp at h
 | o :: os,w,0,o',h => by
   have e : o = o' := by simpa using h
   subst e
   have hb := allocs_below os (w.alloc o) (w.heap.size + 1) (by simp)
   exact (hb.block w.heap.size (by omega)).trans (heap_alloc_new w o)
 | o :: os,w,i + 1,o',h => by
   have := allocs_get os (w.alloc o) i o' (by simpa using h)
   rw [World.size_alloc] at this
   rw [show w.heap.size + (i + 1) = w.heap.size + 1 + i by omega]
   exact this
section
variable {ops : Array Oper} {rest : List Oper} {o : Oper} {a : Act} {w w' : World} {Q : Exit -> Act -> World -> Prop} {v : Value}
theorem wpList_sel (s : Nat) {op : Op} {t : TypeId} {p : String} {af : Array Edge} {g : Option (Nat × Bool)} (h : wpList Tryz.prog ops Q (⟨some s,op,t,p,af,g⟩ :: rest) a w) : wpList Tryz.prog ops Q (⟨some s,op,t,p,af,g⟩ :: rest) a w := h
theorem wpList_selStore (T : TypeId) (x y : Nat) {t : TypeId} {p : String} {af : Array Edge} {g : Option (Nat × Bool)} (h : wpList Tryz.prog ops Q (⟨none, .store T (.tmp x) (.tmp y),t,p,af,g⟩ :: rest) a w) : wpList Tryz.prog ops Q (⟨none, .store T (.tmp x) (.tmp y),t,p,af,g⟩ :: rest) a w := h
theorem wpList_val (hg : o.guard = none) (hrun : (execOp a.eval o).run Tryz.prog w = .ok (.value v) w') (h : wpList Tryz.prog ops Q rest (a.put o.dst v) w') : wpList Tryz.prog ops Q (o :: rest) a w :=
 wpList_plain hg fun _ hK => by
   unfold Oper.wp
   rw [hrun]
   exact hK _ _ h
theorem wpList_skip (hg : o.guard = none) (hrun : (execOp a.eval o).run Tryz.prog w = .ok .skip w') (h : wpList Tryz.prog ops Q rest (a.put o.dst undef) w') : wpList Tryz.prog ops Q (o :: rest) a w :=
 wpList_plain hg fun _ hK => by
   unfold Oper.wp
   rw [hrun]
   exact hK _ _ h
theorem r_app (s x : Operand) (t : TypeId) {sv xv v' : Value} (ho : o.op = .call { callee := .builtin .append,args := #[s,x],argTypes := #[t,t] }) (hs : a.eval s = sv) (hx : a.eval x = xv)
   (hr : (Builtin.append_ #[t,t] o.type #[sv,xv]).run Tryz.prog w = .ok v' w') : (execOp a.eval o).run Tryz.prog w = .ok (.value v') w' := by
 unfold execOp
 simp only [ho,resolve,invoke,builtin,Sem.run_bind,Sem.run_pure,Result.andThen_ok,List.map_toArray,List.map_cons,List.map_nil,hs,hx,hr]
end
theorem owns_block {w : World} {base e n : Nat} {v : Value} {xs : List Value} (h : w.ownsRow base e 1 v n xs) : ∀ r,v.ownBlock = some r -> base <= r /\ ∃ C,w.heap[r]? = some (.cells C e (0,0)) := fun r hr => by
 rcases h.2 with ⟨rfl, -⟩ | ⟨g,cap,cur,rfl,hb,hg, -⟩
 · cases hr
 · have : g = r := Option.some.inj hr
   subst this
   exact ⟨hb,cur,hg⟩
theorem owns_lt {w : World} {base e n : Nat} {v : Value} {xs : List Value} (h : w.ownsRow base e 1 v n xs) {r : Nat} (hr : v.ownBlock = some r) : r < w.heap.size := by
 obtain ⟨-,C,hC⟩ := owns_block h r hr
 exact (Array.getElem?_eq_some_iff.1 hC).1
theorem owns_keep {w w' : World} {base e size n : Nat} {v : Value} {xs : List Value} (h : w.ownsRow base e size v n xs) (hb : ∀ r,v.ownBlock = some r -> w'.heap[r]? = w.heap[r]?) : w'.ownsRow base e size v n xs := by
 obtain ⟨h1,h2⟩ := h
 refine ⟨h1, ?_⟩
 rcases h2 with h2 | ⟨g,cap,cur,a,b,hg,r⟩
 · exact .inl h2
 · exact .inr ⟨g,cap,cur,a,b,(hb g (by rw [a]; rfl)).trans hg,r⟩
theorem owns_form {w : World} {base e n : Nat} {v : Value} {xs : List Value} (h : w.ownsRow base e 1 v n xs) : ∃ A c,v = .slice A n c := by
 rcases h.2 with ⟨rfl,rfl⟩ | ⟨g,cap,cur,rfl, -⟩
 · exact ⟨none,0,rfl⟩
 · exact ⟨_,_,rfl⟩
theorem owns_below {w w' : World} {base e size n : Nat} {v : Value} {xs : List Value} (h : w.ownsRow base e size v n xs) (hb : Below w.heap.size w w') : w'.ownsRow base e size v n xs := by
 obtain ⟨h1,h2⟩ := h
 refine ⟨h1, ?_⟩
 rcases h2 with h2 | ⟨g,cap,cur,a,b,hg,r⟩
 · exact .inl h2
 · exact .inr ⟨g,cap,cur,a,b,(hb.block _ (Array.getElem?_eq_some_iff.1 hg).1).trans hg,r⟩
theorem owns_base {w : World} {base base' e size n : Nat} {v : Value} {xs : List Value} (h : w.ownsRow base e size v n xs) (hb : base' <= base) : w.ownsRow base' e size v n xs := by
 obtain ⟨h1,h2⟩ := h
 refine ⟨h1, ?_⟩
 rcases h2 with h2 | ⟨g,cap,cur,a,b,r⟩
 · exact .inl h2
 · exact .inr ⟨g,cap,cur,a,Nat.le_trans hb b,r⟩
theorem sl_of_owns {w : World} {base e n : Nat} {v : Value} {xs : List Value} (h : w.ownsRow base e 1 v n xs) : Sl w v xs := by
 obtain ⟨hl,h⟩ := h
 rcases h with ⟨rfl,rfl⟩ | ⟨g,cap,cur,rfl,hbg,hg,hnc,hcm,hcs,htake⟩
 · exact ⟨none,0,0,rfl,by simpa using hl.symm,Nat.le_refl _,by simp [maxLen],fun h => absurd h (by omega)⟩
 · refine ⟨_,n,cap,rfl,by omega,hnc,hcm,fun _ => ⟨g,0,rfl,fun j u hu => ?_⟩⟩
   rw [cell_of_row _ _ _ _ _ _ hg,Nat.zero_add]
   rw [<- htake,List.getElem?_take] at hu
   split at hu
   · simpa using hu
   · cases hu
abbrev OwnI (base : Nat) (w : World) (v : Value) (xs : List Int) : Prop := w.ownsRow base 3 1 v xs.length (ints xs)
theorem OwnI.ints {base : Nat} {w : World} {v : Value} {xs : List Int} (h : OwnI base w v xs) (hf : Fits xs) : IntsAt w v xs := ⟨sl_of_owns h,hf⟩
theorem info3p : ∃ i,Tryz.prog.info? 3 = some i /\ i.zero = some (.int .i64 0) /\ i.size = 1 /\ i.bytes = 8 := by
 have h : (Tryz.prog.info? 3).map (fun i => (i.zero,i.size,i.bytes)) = some (some (.int .i64 0),1,8) := by kernel_rfl
 cases hq : Tryz.prog.info? 3 with
 | none => simp [hq] at h
 | some i => simp [hq] at h; exact ⟨i,rfl,h⟩
theorem info24p : ∃ i,Tryz.prog.info? 35 = some i /\ i.zero = some (.slice none 0 0) /\ i.size = 1 /\ i.bytes = 24 := by
 have h : (Tryz.prog.info? 35).map (fun i => (i.zero,i.size,i.bytes)) = some (some (.slice none 0 0),1,24) := by kernel_rfl
 cases hq : Tryz.prog.info? 35 with
 | none => simp [hq] at h
 | some i => simp [hq] at h; exact ⟨i,rfl,h⟩
theorem info25p : ∃ i,Tryz.prog.info? 36 = some i /\ i.zero = some (.slice none 0 0) /\ i.size = 1 /\ i.bytes = 24 := by
 have h : (Tryz.prog.info? 36).map (fun i => (i.zero,i.size,i.bytes)) = some (some (.slice none 0 0),1,24) := by kernel_rfl
 cases hq : Tryz.prog.info? 36 with
 | none => simp [hq] at h
 | some i => simp [hq] at h; exact ⟨i,rfl,h⟩
theorem run_push {t ty e : TypeId} {z : Value} {bytes : Nat} (ht : Tryz.prog.underlying t = some (.slice e)) (hi : ∃ i,Tryz.prog.info? e = some i /\ i.zero = some z /\ i.size = 1 /\ i.bytes = bytes) (hz : z.cells.size = 1) (hby : bytes <= 1000)
   (w : World) (base : Nat) (v : Value) (n : Nat) (xs : List Value) (hown : w.ownsRow base e 1 v n xs) (x : Value) (h1 : x.oneCell' = true) (hn : n <= 10000000) (hb : base <= w.heap.size) :
   ∃ A' c' w',(Builtin.append_ #[t,t] ty #[v, .slice (some ⟨w.heap.size,0,none⟩) 1 1]).run Tryz.prog (w.alloc (.cells #[x] e)) = .ok (.slice A' (n + 1) c') w' /\ w'.ownsRow base e 1 (.slice A' (n + 1) c') (n + 1) (xs ++ [x]) /\
     w.grownBy w' v.ownBlock /\ ((Value.slice A' (n + 1) c').ownBlock = v.ownBlock \/ ∃ r,(Value.slice A' (n + 1) c').ownBlock = some r /\ w.heap.size <= r) := by
 obtain ⟨i,hi,hz',hs,hb'⟩ := hi
 have hal : Below w.heap.size w (w.alloc (.cells #[x] e)) := (Below.refl _ _).alloc (Nat.le_refl _) _
 obtain ⟨v',w',hr,hown',hg, -,hw⟩ := run_append_own_at (P := Tryz.prog) (w.alloc (.cells #[x] e)) base t ty e i z 1 bytes ht hi hz' hs hb' hz (by omega) v n xs (owns_below hown hal) ⟨w.heap.size,0,none⟩ 1 1 [x] rfl (cell_one_new _ _ _) (fun u hu => by simp at hu; rw [hu]; exact h1) (by unfold maxLen; omega)
   (by have : (n + 1) * bytes <= 10000001 * 1000 := Nat.mul_le_mul (by omega) hby
       omega) (by have := hal.size; omega)
 obtain ⟨A',c',rfl⟩ := owns_form hown'
 refine ⟨A',c',w',hr,hown', ?_, ?_⟩
 · have h2 := hg
   exact ⟨h2.os,h2.tape,h2.output,Nat.le_trans hal.size h2.size,fun k hk hne => (h2.block k (Nat.lt_of_lt_of_le hk hal.size) hne).trans (hal.block k hk)⟩
 · rcases hw with hw | hw
   · exact .inl hw
   · exact .inr ⟨_,hw,by simp⟩
theorem push_int (ty : TypeId) (t : TypeId) (ht : Tryz.prog.underlying t = some (.slice 3)) (w : World) (base : Nat) (v : Value) (xs : List Int) (h : OwnI base w v xs) (z : Int) (hx : xs.length <= 10000000) (hb : base <= w.heap.size) :
   ∃ A' c' w',(Builtin.append_ #[t,t] ty #[v, .slice (some ⟨w.heap.size,0,none⟩) 1 1]).run Tryz.prog (w.alloc (.cells #[.int .i64 z] 3)) = .ok (.slice A' (xs.length + 1) c') w' /\ OwnI base w' (.slice A' (xs.length + 1) c') (xs ++ [z]) /\
     w.grownBy w' v.ownBlock /\ ((Value.slice A' (xs.length + 1) c').ownBlock = v.ownBlock \/ ∃ r,(Value.slice A' (xs.length + 1) c').ownBlock = some r /\ w.heap.size <= r) := by
 obtain ⟨A',c',w',hr,ho,hg,hw⟩ := run_push (ty := ty) ht info3p rfl (by omega) w base v xs.length (ints xs) h (.int .i64 z) rfl hx hb
 refine ⟨A',c',w',hr, ?_,hg,hw⟩
 show w'.ownsRow base 3 1 _ (xs ++ [z]).length (ints (xs ++ [z]))
 rw [ints_app,List.length_append]
 exact ho
def Ag (F : Nat -> Prop) (w w' : World) : Prop := ∀ k,F k -> w'.heap[k]? = w.heap[k]?
theorem Ag.refl (F : Nat -> Prop) (w : World) : Ag F w w := fun _ _ => rfl
theorem Ag.trans {F : Nat -> Prop} {a b c : World} (h : Ag F a b) (k : Ag F b c) : Ag F a c := fun i hi => (k i hi).trans (h i hi)
theorem Ag.grown {F : Nat -> Prop} {w w' : World} {row : Option Nat} (hg : w.grownBy w' row) (hF : ∀ k,F k -> k < w.heap.size /\ row ≠ some k) : Ag F w w' := fun k hk => hg.block k (hF k hk).1 (fun e => (hF k hk).2 e.symm)
theorem Ag.below {F : Nat -> Prop} {w w' : World} (hb : Below w.heap.size w w') (hF : ∀ k,F k -> k < w.heap.size) : Ag F w w' := fun k hk => hb.block k (hF k hk)
def IntsF (F : Nat -> Prop) (w : World) (u : Value) (x : List Int) : Prop := ∀ w',Ag F w w' -> IntsAt w' u x
theorem IntsF.at_ {F : Nat -> Prop} {w : World} {u : Value} {x : List Int} (h : IntsF F w u x) : IntsAt w u x := h w (Ag.refl _ _)
theorem IntsF.keep {F : Nat -> Prop} {w w' : World} {u : Value} {x : List Int} (h : IntsF F w u x) (ha : Ag F w w') : IntsF F w' u x := fun w'' h' => h w'' (ha.trans h')
theorem IntsF.mono {F G : Nat -> Prop} {w : World} {u : Value} {x : List Int} (h : IntsF F w u x) (hg : ∀ k,F k -> G k) : IntsF G w u x := fun w' h' => h w' fun k hk => h' k (hg k hk)
theorem IntsF.of_own {base : Nat} {w : World} {v : Value} {xs : List Int} (h : OwnI base w v xs) (hf : Fits xs) : IntsF (fun k => v.ownBlock = some k) w v xs := fun _w' hw => OwnI.ints (owns_keep h fun r hr => hw r hr) hf
theorem IntsF.of_at {w : World} {v : Value} {xs : List Int} (h : IntsAt w v xs) : IntsF (fun k => k < w.heap.size) w v xs := fun _w' hw => kept_ints _ _ _ _ (fun k hk => hw k hk) h
def RowsF (F : Nat -> Prop) (w : World) (vals : List Value) (xs : List (List Int)) : Prop := vals.length = xs.length /\ ∀ j,j < xs.length -> ∃ u,vals[j]? = some u /\ IntsF F w u (xs.getD j [])
theorem RowsF.keep {F G : Nat -> Prop} {w w' : World} {vals : List Value} {xs : List (List Int)} (h : RowsF F w vals xs) (ha : Ag F w w') (hg : ∀ k,F k -> G k) : RowsF G w' vals xs :=
 ⟨h.1,fun j hj => let ⟨u,hu,hx⟩ := h.2 j hj; ⟨u,hu,(hx.keep ha).mono hg⟩⟩
theorem RowsF.nil (F : Nat -> Prop) (w : World) : RowsF F w [] [] := ⟨rfl,fun j hj => absurd hj (by simp)⟩
theorem RowsF.snoc {F : Nat -> Prop} {w : World} {vals : List Value} {xs : List (List Int)} (h : RowsF F w vals xs) {u : Value} {x : List Int} (hu : IntsF F w u x) : RowsF F w (vals ++ [u]) (xs ++ [x]) := by
 refine ⟨by simp [h.1],fun j hj => ?_⟩
 rcases Nat.lt_or_ge j xs.length with hl | hl
 · obtain ⟨u',h1,h2⟩ := h.2 j hl
   refine ⟨u',by rw [List.getElem?_append_left (by rw [h.1]; exact hl)]; exact h1, ?_⟩
   rw [show (xs ++ [x]).getD j [] = xs.getD j [] by simp [List.getD_eq_getElem?_getD,List.getElem?_append_left hl]]
   exact h2
 · obtain rfl : j = xs.length := by simp at hj; omega
   refine ⟨u,by rw [List.getElem?_append_right (by rw [h.1]; exact Nat.le_refl _),h.1]; simp, ?_⟩
   rw [show (xs ++ [x]).getD xs.length [] = x by simp [List.getD_eq_getElem?_getD]]
   exact hu
def OwnT (e : TypeId) (base : Nat) (F : Nat -> Prop) (w : World) (v : Value) (xs : List (List Int)) : Prop := ∃ vals,w.ownsRow base e 1 v xs.length vals /\ RowsF F w vals xs
theorem OwnT.tab {e : TypeId} {base : Nat} {F : Nat -> Prop} {w : World} {v : Value} {xs : List (List Int)} (h : OwnT e base F w v xs) : Tab w v xs := by
 obtain ⟨vals,h1,h2⟩ := h
 exact ⟨vals,sl_of_owns h1,h2.1,fun i hi => let ⟨u,hu,hx⟩ := h2.2 i hi; ⟨u,hu,hx.at_⟩⟩
theorem OwnT.form {e : TypeId} {base : Nat} {F : Nat -> Prop} {w : World} {v : Value} {xs : List (List Int)} (h : OwnT e base F w v xs) : ∃ A c,v = .slice A xs.length c := let ⟨_,h1,_⟩ := h; owns_form h1
theorem OwnT.keep {e : TypeId} {base : Nat} {F G : Nat -> Prop} {w w' : World} {v : Value} {xs : List (List Int)} (h : OwnT e base F w v xs) (hv : ∀ r,v.ownBlock = some r -> w'.heap[r]? = w.heap[r]?) (ha : Ag F w w') (hg : ∀ k,F k -> G k) : OwnT e base G w' v xs :=
 let ⟨vals,h1,h2⟩ := h; ⟨vals,owns_keep h1 hv,h2.keep ha hg⟩
theorem OwnT.below {e : TypeId} {base : Nat} {F : Nat -> Prop} {w w' : World} {v : Value} {xs : List (List Int)} (h : OwnT e base F w v xs) (hb : Below w.heap.size w w') (hF : ∀ k,F k -> k < w.heap.size) : OwnT e base F w' v xs :=
 let ⟨_vals,h1,_h2⟩ := h; h.keep (fun _r hr => hb.block _ (owns_lt h1 hr)) (Ag.below hb hF) fun _ h => h
theorem push_row {t ty e : TypeId} (ht : Tryz.prog.underlying t = some (.slice e)) (hi : ∃ i,Tryz.prog.info? e = some i /\ i.zero = some (.slice none 0 0) /\ i.size = 1 /\ i.bytes = 24) (w : World) (base : Nat) (F : Nat -> Prop) (v : Value) (xs : List (List Int)) (h : OwnT e base F w v xs) (A : Option Addr) (n c : Nat) (x : List Int)
   (hx : IntsF F w (.slice A n c) x) (hF : ∀ k,F k -> k < w.heap.size /\ v.ownBlock ≠ some k) (hl : xs.length <= 10000000) (hb : base <= w.heap.size) :
   ∃ A' c' w',(Builtin.append_ #[t,t] ty #[v, .slice (some ⟨w.heap.size,0,none⟩) 1 1]).run Tryz.prog (w.alloc (.cells #[.slice A n c] e)) = .ok (.slice A' (xs.length + 1) c') w' /\ OwnT e base F w' (.slice A' (xs.length + 1) c') (xs ++ [x]) /\
     w.grownBy w' v.ownBlock /\ ((Value.slice A' (xs.length + 1) c').ownBlock = v.ownBlock \/ ∃ r,(Value.slice A' (xs.length + 1) c').ownBlock = some r /\ w.heap.size <= r) := by
 obtain ⟨vals,h1,h2⟩ := h
 obtain ⟨A',c',w',hr,ho,hg,hw⟩ := run_push (ty := ty) ht hi rfl (by omega) w base v xs.length vals h1 (.slice A n c) rfl hl hb
 refine ⟨A',c',w',hr,⟨vals ++ [.slice A n c], ?_, ?_⟩,hg,hw⟩
 · rw [List.length_append]; exact ho
 · have ha := Ag.grown hg hF
   exact (h2.keep ha fun _ h => h).snoc (hx.keep ha)
end Go.Proofs
namespace Go.Proofs
open Go.RowKit Go.Shelf
def PredW (g : Nat) (lb : Array Value) (ok : Int -> Prop) (p : Int -> Bool) (w : World) : Prop :=
 ∀ (x : Int) (q : Nat),ok x -> Calls Tryz.prog g (#[.int .i64 x] ++ lb) (w.drewN q) fun e w' => e = .returned (.bool (p x)) /\ ∃ q',w' = w.drewN q'
def IdxSaid (b : Bool) (e : Ending) : Prop := ∃ r : Int,e = .returned (.int .i64 r) /\ decide (0 <= r) = b
theorem any_false_of {p : Int -> Bool} {xs : List Int} (h : ∀ j,j < xs.length -> p (xs.getD j 0) = false) : xs.any p = false := by
 rw [List.any_eq_false]
 intro x hx
 obtain ⟨c,hc,rfl⟩ := List.mem_iff_getElem.1 hx
 have := h c hc
 rw [List.getD_eq_getElem?_getD,List.getElem?_eq_getElem hc] at this
 simpa using this
theorem any_true_of {p : Int -> Bool} {xs : List Int} {k : Nat} (hk : k < xs.length) (h : p (xs.getD k 0) = true) : xs.any p = true := by
 rw [List.any_eq_true]
 rw [List.getD_eq_getElem?_getD,List.getElem?_eq_getElem hk] at h
 exact ⟨_,List.getElem_mem hk,h⟩
section
variable (g : Nat) (lb : Array Value) (ok : Int -> Prop) (p : Int -> Bool) (w : World) (eg : ∀ args w,(callFunc g args).run Tryz.prog w = .ok (.enter g args) w) (hp : PredW g lb ok p w) (v : Value) (xs : List Int) (h : IntsAt w v xs) (hok : ∀ x ∈ xs,ok x)
include eg hp h hok
set_option maxHeartbeats 400000 in
theorem idx117_any : Calls Tryz.prog 65 #[v, .func (.func g) #[] lb] w fun e w' => IdxSaid (xs.any p) e /\ ∃ q,w' = w.drewN q := by
 obtain ⟨A,c,rfl,hc1,hc2,hc⟩ := h.open_
 have HC := Lib.hid hc
 have HP := Lib.hid hp
 have HK := Lib.hid hok
 clear hc hp h hok
 go_enter Tryz.func65,Tryz.ntmps65
 go_wp2_with fail
 go_loopw [5,8] (fun _ i wr => ∃ k : Nat,k <= xs.length /\ i = .int .i64 k /\ (∀ j,j < k -> p (xs.getD j 0) = false) /\ ∃ q,wr = w.drewN q) (fun _ i _ => xs.length - (intOf i).toNat)
 case atStart => exact ⟨0,Nat.zero_le _,rfl,fun j hj => absurd hj (by omega),0,rfl⟩
 case round =>
   obtain ⟨k,hk,rfl,hz,q,rfl⟩ := hrel
   have HZ := Lib.hid hz
   clear hz
   by_cases hlt : k < xs.length
   · obtain ⟨b,o,rfl,hcc⟩ := HC.out (by omega)
     have hck := hcc k hlt
     have hx : ok (xs.getD k 0) := HK.out _ (by rw [List.getD_eq_getElem?_getD,List.getElem?_eq_getElem hlt]; exact List.getElem_mem hlt)
     clear hcc
     have HA := Lib.hid (any_true_of (p := p) hlt)
     generalize hxe : xs.getD k 0 = x at *
     have HXE := Lib.hid hxe
     clear hxe
     have HX := Lib.hid hx
     clear hx
     have hcall := HP.out x q HX.out
     cases hq : p x with
     | true =>
       rw [hq] at hcall
       have HQ := Lib.hid hq
       clear hq
       have HCALL := Lib.hid hcall
       clear hcall
       go_wp2_with (go_at_fn g; (refine HCALL.out.mono ?_); rintro e w' ⟨rfl,q',rfl⟩)
       go_ret
       exact ⟨⟨k,rfl,by rw [HA.out HQ.out]; simp⟩,_,rfl⟩
     | false =>
       rw [hq] at hcall
       have HQ := Lib.hid hq
       clear hq
       have HCALL := Lib.hid hcall
       clear hcall
       go_wp2_with (go_at_fn g; (refine HCALL.out.mono ?_); rintro e w' ⟨rfl,q',rfl⟩)
       go_roundw
       case rel => exact ⟨k + 1,by omega,by go_num,all_succ HZ.out (by rw [HXE.out]; exact HQ.out),_,rfl⟩
       case measure => simp [intOf]; omega
   · obtain rfl : k = xs.length := by omega
     go_wp2_with fail
     go_ret
     exact ⟨⟨-1,rfl,by rw [any_false_of HZ.out]; rfl⟩,_,rfl⟩
theorem has74_any : Calls Tryz.prog 62 #[v, .func (.func g) #[] lb] w fun e w' => e = .returned (.bool (xs.any p)) /\ ∃ q,w' = w.drewN q := by
 have hcon := Lib.hid (idx117_any g lb ok p w eg hp v xs h hok)
 clear hp h hok
 go_enter Tryz.func62,Tryz.ntmps62
 go_wp2_with (go_at_call 65; (refine hcon.out.mono ?_); rintro e w' ⟨⟨r,rfl,hr⟩,q,rfl⟩; have HR := Lib.hid hr; clear hr)
 go_ret
 exact ⟨ret_bool HR.out,_,rfl⟩
end
end Go.Proofs
namespace Go.Proofs.Ct
def foldTo {α : Type} (f : Nat -> α -> α) : Nat -> α -> α
 | 0,x => x
 | k + 1,x => f k (foldTo f k x)
theorem foldTo_inv {α : Type} {f : Nat -> α -> α} {p : Nat -> α -> Prop} {x : α} (h0 : p 0 x) : ∀ (n : Nat) (_ : ∀ k x,k < n -> p k x -> p (k + 1) (f k x)),p n (foldTo f n x)
 | 0,_ => h0
 | n + 1,hf => hf n _ (Nat.lt_succ_self n) (foldTo_inv h0 n (fun k x hk hx => hf k x (Nat.lt_succ_of_lt hk) hx))
abbrev Tb := List (List Int)
def Tb.row (t : Tb) (r : Nat) : List Int := t.getD r []
def Tb.at (t : Tb) (r c : Nat) : Int := (t.row r).getD c 0
def first (p : Nat -> Bool) (n : Nat) : Option Nat := (List.range n).find? p
theorem first_some {p : Nat -> Bool} {n k : Nat} (hk : k < n) (hp : p k = true) (hb : ∀ j,j < k -> p j = false) : first p n = some k := by
 unfold first
 rw [List.find?_range_eq_some]
 exact ⟨hp,by simpa using hk,fun j hj => by simp [hb j hj]⟩
theorem first_none {p : Nat -> Bool} {n : Nat} (hb : ∀ j,j < n -> p j = false) : first p n = none := by
 unfold first
 rw [List.find?_eq_none]
 intro x hx
 simp [hb x (by simpa using hx)]
theorem first_none' {p : Nat -> Bool} {n : Nat} (h : first p n = none) : ∀ j,j < n -> p j = false := by
 intro j hj
 unfold first at h
 rw [List.find?_eq_none] at h
 simpa using h j (by simpa using hj)
theorem first_some' {p : Nat -> Bool} {n k : Nat} (h : first p n = some k) : k < n /\ p k = true /\ ∀ j,j < k -> p j = false := by
 unfold first at h
 rw [List.find?_range_eq_some] at h
 exact ⟨by simpa using h.2.1,h.1,fun j hj => by simpa using h.2.2 j hj⟩
def flp (c : Nat) : Nat := if c % 2 = 0 then c + 1 else c - 1
def wide (g : Int) (t : Tb) : Bool := decide (g < 1) || decide (16 < g) || decide (t.length < 1) || decide (20000 < t.length)
structure TGood (g : Nat) (t : Tb) : Prop where
 g1 : 1 <= g
 g16 : g <= 16
 n1 : 1 <= t.length
 n2 : t.length <= 20000
 len : ∀ r,r < t.length -> (t.row r).length = 2 * g
 bd : ∀ r,r < t.length -> ∀ c,c < 2 * g -> -1 <= t.at r c /\ t.at r c < t.length
 back : ∀ r,r < t.length -> ∀ c,c < 2 * g -> 0 <= t.at r c -> t.at (t.at r c).toNat (flp c) = r
def visit (l : List Int) (s : Int) : List Int := if decide (s < 0) || l.contains s then l else l ++ [s]
def visitTo (row : List Int) (c : Nat) (l : List Int) : List Int := foldTo (fun c l => visit l (row.getD c 0)) c l
def ordTo (t : Tb) (b : Int) : Nat -> List Int
 | 0 => [b]
 | k + 1 => if k < (ordTo t b k).length then visitTo (t.row ((ordTo t b k).getD k 0).toNat) (t.row ((ordTo t b k).getD k 0).toNat).length (ordTo t b k) else ordTo t b k
def ord (t : Tb) (b : Int) : List Int := ordTo t b t.length
def numOf (l : List Int) (x : Int) : Int := (l.idxOf x : Int)
def neg (row : List Int) : Bool := row.any fun s => decide (s < 0)
def std (t : Tb) (b : Int) : Option Tb :=
 if (ord t b).length = t.length /\ t.any neg = false then some ((ord t b).map fun r => (t.row r.toNat).map (numOf (ord t b))) else none
def complete (t : Tb) : Bool := !(t.any fun row => row.contains (-1))
def letter (c : Nat) : Int := if c % 2 = 1 then -((c / 2 : Nat) + 1) else (c / 2 : Nat) + 1
abbrev W := List Int
def repCol (t : Tb) (r c : Nat) (out : List W) : List W := if t.at r c = (out.length : Int) then out ++ [out.getD r [] ++ [letter c]] else out
def repRow (t : Tb) (r : Nat) (out : List W) : List W := foldTo (repCol t r) (t.row r).length out
def reps (t : Tb) : List W := foldTo (repRow t) t.length [[]]
end Go.Proofs.Ct
namespace Go.Proofs.Ct
theorem visit_pre (l : List Int) (s : Int) : l <+: visit l s := by
 unfold visit
 split
 · exact List.prefix_refl _
 · exact List.prefix_append _ _
theorem visitTo_pre (row : List Int) (c : Nat) (l : List Int) : l <+: visitTo row c l := by
 induction c with
 | zero => exact List.prefix_refl _
 | succ c ih => exact ih.trans (visit_pre _ _)
theorem visitTo_mono (row : List Int) {c d : Nat} (h : c <= d) (l : List Int) : visitTo row c l <+: visitTo row d l := by
 obtain ⟨e,rfl⟩ := Nat.exists_eq_add_of_le h
 clear h
 induction e with
 | zero => exact List.prefix_refl _
 | succ e ih => exact ih.trans (visit_pre _ _)
theorem ordTo_pre (t : Tb) (b : Int) (k : Nat) : ordTo t b k <+: ordTo t b (k + 1) := by
 rw [ordTo]
 split
 · exact visitTo_pre _ _ _
 · exact List.prefix_refl _
theorem ordTo_mono (t : Tb) (b : Int) {k m : Nat} (h : k <= m) : ordTo t b k <+: ordTo t b m := by
 obtain ⟨e,rfl⟩ := Nat.exists_eq_add_of_le h
 clear h
 induction e with
 | zero => exact List.prefix_refl _
 | succ e ih => exact ih.trans (ordTo_pre _ _ _)
theorem ordTo_stable (t : Tb) (b : Int) {k : Nat} (h : (ordTo t b k).length <= k) {m : Nat} (hm : k <= m) : ordTo t b m = ordTo t b k := by
 obtain ⟨e,rfl⟩ := Nat.exists_eq_add_of_le hm
 clear hm
 induction e with
 | zero => rfl
 | succ e ih =>
   rw [<- Nat.add_assoc,ordTo,ih,if_neg (by omega)]
structure Cos (n : Nat) (l : List Int) : Prop where
 nd : l.Nodup
 bd : ∀ x ∈ l,0 <= x /\ x < n
theorem Cos.visit {n : Nat} {l : List Int} (h : Cos n l) {s : Int} (hs : s < n) : Cos n (visit l s) := by
 unfold Ct.visit
 split
 · exact h
 · rename_i hc
   simp at hc
   refine ⟨List.nodup_append.2 ⟨h.nd,by simp,fun a ha b hb => ?_⟩,fun x hx => ?_⟩
   · simp at hb
     subst hb
     intro e
     subst e
     exact hc.2 ha
   · rw [List.mem_append] at hx
     rcases hx with hx | hx
     · exact h.bd x hx
     · simp at hx
       subst hx
       exact ⟨hc.1,hs⟩
theorem Cos.visitTo {n : Nat} {row : List Int} (hr : ∀ c,c < row.length -> row.getD c 0 < n) {l : List Int} (h : Cos n l) : ∀ {c : Nat},c <= row.length -> Cos n (visitTo row c l)
 | 0,_ => h
 | c + 1,hc => (Cos.visitTo hr h (by omega)).visit (hr c (by omega))
theorem Cos.get {n : Nat} {l : List Int} (h : Cos n l) {k : Nat} (hk : k < l.length) : 0 <= l.getD k 0 /\ l.getD k 0 < n := by
 rw [List.getD_eq_getElem?_getD,List.getElem?_eq_getElem hk]
 exact h.bd _ (List.getElem_mem hk)
theorem TGood.lt {g : Nat} {t : Tb} (h : TGood g t) {r : Nat} (hr : r < t.length) : ∀ c,c < (t.row r).length -> (t.row r).getD c 0 < t.length := fun c hc => by
 rw [h.len r hr] at hc
 exact (h.bd r hr c hc).2
theorem Cos.ordTo {g : Nat} {t : Tb} (hg : TGood g t) {b : Int} (hb : 0 <= b) (hb' : b < t.length) : ∀ k,Cos t.length (ordTo t b k)
 | 0 => ⟨by simp [Ct.ordTo],fun x hx => by
     simp [Ct.ordTo] at hx
     subst hx
     exact ⟨hb,hb'⟩⟩
 | k + 1 => by
   have ih := Cos.ordTo hg hb hb' k
   rw [Ct.ordTo]
   split
   · rename_i hk
     have hx := ih.get hk
     exact ih.visitTo (hg.lt (by omega)) (Nat.le_refl _)
   · exact ih
theorem length_le_of_nodup : ∀ {n : Nat} {l : List Int},Cos n l -> l.length <= n
 | 0,l,h => by
   rcases l with _ | ⟨x,l⟩
   · simp
   · have := h.bd x (by simp)
     omega
 | n + 1,l,h => by
   have h1 : Cos n (l.erase n) := ⟨h.nd.erase _,fun x hx => by
     have h2 := (List.Nodup.mem_erase_iff h.nd).1 hx
     have h3 := h.bd x h2.2
     have : x ≠ (n : Int) := h2.1
     omega⟩
   have h4 := length_le_of_nodup h1
   rw [List.length_erase] at h4
   split at h4 <;> omega
theorem mem_of_full : ∀ {n : Nat} {l : List Int},Cos n l -> l.length = n -> ∀ r : Nat,r < n -> (r : Int) ∈ l := by
 intro n l h hl r hr
 by_cases hm : (r : Int) ∈ l
 · exact hm
 · exfalso
   -- r is left out: the others,with r's place taken by n - 1,are below n - 1
   have h1 : Cos n ((r : Int) :: l) := ⟨List.nodup_cons.2 ⟨hm,h.nd⟩,fun x hx => by
     rcases List.mem_cons.1 hx with rfl | hx
     · exact ⟨by omega,by omega⟩
     · exact h.bd x hx⟩
   have := length_le_of_nodup h1
   simp at this
   omega
theorem idxOf_pre {l o : List Int} (h : l <+: o) {x : Int} (hx : x ∈ l) : numOf o x = numOf l x := by
 obtain ⟨m,rfl⟩ := h
 unfold numOf
 rw [List.idxOf_append,if_pos hx]
theorem numOf_new {l o : List Int} {x : Int} (hx : x ∉ l) (h : l ++ [x] <+: o) : numOf o x = l.length := by
 obtain ⟨m,rfl⟩ := h
 unfold numOf
 rw [List.idxOf_append,if_pos (by simp),List.idxOf_append,if_neg hx]
 simp
theorem mem_visit {l : List Int} {s : Int} (h : 0 <= s) : s ∈ visit l s := by
 unfold visit
 split
 · rename_i hc
   simp at hc
   rcases hc with hc | hc
   · omega
   · exact hc
 · simp
theorem mem_visitTo {row : List Int} {c d : Nat} (h : c < d) (h0 : 0 <= row.getD c 0) (l : List Int) : row.getD c 0 ∈ visitTo row d l :=
 (visitTo_mono row (by omega : c + 1 <= d) l).subset (mem_visit h0)
theorem pre_get {l o : List Int} (h : l <+: o) {k : Nat} (hk : k < l.length) : o.getD k 0 = l.getD k 0 := by
 obtain ⟨m,rfl⟩ := h
 simp [List.getD_eq_getElem?_getD,List.getElem?_append,hk]
end Go.Proofs.Ct
namespace Go.Proofs
open Go.RowKit Go.Shelf Go.Proofs.Ct Go.Maps
def I64 (x : Int) : Prop := -9223372036854775808 <= x /\ x <= 9223372036854775807
def MapI (w : World) (b : Nat) (l : List Int) : Prop :=
 ∃ n D,n <= l.length /\ w.ownsMap (H := Unit) Tryz.prog 3 (plainElem Tryz.prog 3) b n D /\
   ∀ s,I64 s -> Maps.has D (.int .i64 s) = l.contains s /\ (s ∈ l -> D.atKey (.int .i64 s) (.lit (.int .i64 0)) = .lit (.int .i64 (numOf l s)))
theorem key3 {s : Int} (h : I64 s) : keyOf Tryz.prog 3 (.int .i64 s) = some (.int .i64 s) := keyOf_int_mk Tryz.underlying3 (WalkArith.wf_i64 h)
theorem MapI.made (w : World) : MapI (w.alloc (.map #[] 0)) w.heap.size [] :=
 ⟨0, .map [],Nat.le_refl _,World.ownsMap_made _ _ _ _,fun s _ => ⟨by simp [Maps.has],fun h => by cases h⟩⟩
theorem MapI.kept {w w' : World} {b : Nat} {l : List Int} {row : Option Nat} (h : MapI w b l) (hg : w.grownBy w' row) (hne : row ≠ some b) : MapI w' b l := by
 obtain ⟨n,D,h1,h2,h3⟩ := h
 exact ⟨n,D,h1,h2.kept hg (Ne.symm hne),h3⟩
theorem MapI.lt {w : World} {b : Nat} {l : List Int} (h : MapI w b l) : b < w.heap.size := by
 obtain ⟨n,D,h1,h2,h3⟩ := h
 exact h2.lt
theorem MapI.isMapObj {w : World} {b : Nat} {l : List Int} (h : MapI w b l) : ∃ es clock,w.heap[b]? = some (.map es clock) := by
 obtain ⟨n,D,h1,⟨es,clock,hb, -⟩,h3⟩ := h
 exact ⟨es,clock,hb⟩
theorem MapI.put {w : World} {b : Nat} {l : List Int} (h : MapI w b l) {s : Int} (hs : I64 s) (hl : l.length <= 8000000) (hn : s ∉ l) :
   ∃ w',(Instr.mapUpdate 132 (.map (some b)) (.int .i64 s) (.int .i64 (l.length : Int))).run Tryz.prog w = .ok () w' /\ MapI w' b (l ++ [s]) /\ w.grownBy w' (some b) := by
 obtain ⟨n,D,h1,h2,h3⟩ := h
 obtain ⟨w',hr,ho,hg⟩ := h2.update (val := .int .i64 (l.length : Int)) (int_keyed Tryz.underlying3) Tryz.underlying132 (by unfold maxLen; omega) (key3 hs) (plainElem_int Tryz.underlying3 (WalkArith.wf_i64 (by omega)))
 refine ⟨w',hr,⟨n + 1,_,by simp; omega,ho,fun x hx => ?_⟩,hg⟩
 by_cases e : x = s
 · subst e
   have hkl : WideAt.IsKeyLit (Lit.int .i64 x) := by simp [WideAt.IsKeyLit]
   rw [Maps.has_put_same h2.isMap hkl]
   refine ⟨by simp,fun _ => ?_⟩
   rw [Maps.atKey_put_same h2.isMap hkl]
   rw [numOf_new hn (List.prefix_refl _)]
 · have hne : (Lit.int .i64 x) ≠ (Lit.int .i64 s) := fun h => e (by simpa using h)
   rw [Maps.has_put_other hne,(h3 x hx).1]
   refine ⟨by simp [e],fun hm => ?_⟩
   have hm' : x ∈ l := by
     rcases List.mem_append.1 hm with h | h
     · exact h
     · exact absurd (by simpa using h) e
   rw [Maps.atKey_put_other hne,(h3 x hx).2 hm',idxOf_pre (List.prefix_append _ _) hm']
section
variable {o : Oper} {a : Act} {w w' : World} {ops : Array Oper} {rest : List Oper} {Q : Exit -> Act -> World -> Prop}
theorem r_make {lv cv v : Value} (T : TypeId) (l c : Operand) (ho : o.op = .makeSlice T l c) (hl : a.eval l = lv) (hc : a.eval c = cv) (hr : (Instr.makeSlice T lv cv).run Tryz.prog w = .ok v w') : (execOp a.eval o).run Tryz.prog w = .ok (.value v) w' := by
 unfold execOp
 simp only [ho,hl,hc,Sem.run_bind,hr,Result.andThen_ok]
 rfl
end
structure StdSt (bm : Nat) (F : Nat -> Prop) (w0 wr : World) (vo vout : Value) (o : List Int) (rows : Tb) : Prop where
 below : Below w0.heap.size w0 wr
 bm0 : w0.heap.size <= bm
 map : MapI wr bm o
 ord : OwnI w0.heap.size wr vo o
 out : OwnT 35 w0.heap.size F wr vout rows
 fs : ∀ k,F k -> w0.heap.size <= k /\ k < wr.heap.size /\ vo.ownBlock ≠ some k /\ ∃ C,wr.heap[k]? = some (.cells C 3 (0,0))
structure StdSt2 (bm : Nat) (F : Nat -> Prop) (w0 wr : World) (vo vout vr : Value) (o : List Int) (rows : Tb) (x : List Int) : Prop where
 st : StdSt bm F w0 wr vo vout o rows
 row : OwnI w0.heap.size wr vr x
 ap : ∀ r,vr.ownBlock = some r -> vo.ownBlock ≠ some r /\ ¬ F r
theorem grown_cells {w w' : World} {row : Option Nat} (hg : w.grownBy w' row) {k : Nat} {ob : Obj} (h : w.heap[k]? = some ob) (hne : row ≠ some k) : w'.heap[k]? = some ob :=
 (hg.block k (Array.getElem?_eq_some_iff.1 h).1 (Ne.symm hne)).trans h
theorem OwnT.block {e : TypeId} {base : Nat} {F : Nat -> Prop} {w : World} {v : Value} {xs : List (List Int)} (h : OwnT e base F w v xs) : ∀ r,v.ownBlock = some r -> base <= r /\ ∃ C,w.heap[r]? = some (.cells C e (0,0)) := let ⟨_,h1,_⟩ := h; owns_block h1
theorem StdSt.grown {bm : Nat} {F : Nat -> Prop} {w0 wr w' : World} {vo vout : Value} {o : List Int} {rows : Tb} {row : Option Nat} (h : StdSt bm F w0 wr vo vout o rows) (hg : wr.grownBy w' row)
   (h0 : ∀ r,row = some r -> w0.heap.size <= r /\ vo.ownBlock ≠ some r /\ ¬ F r /\ vout.ownBlock ≠ some r /\ r ≠ bm) : StdSt bm F w0 w' vo vout o rows := by
 have hob := owns_block h.ord
 have hub := h.out.block
 refine ⟨h.below.grown hg h.below.size (fun k hk => (h0 k hk).1),h.bm0,h.map.kept hg (fun e => (h0 _ e).2.2.2.2 rfl),owns_keep h.ord fun r hr => ?_,h.out.keep (fun r hr => ?_) (Ag.grown hg fun k hk => ⟨(h.fs k hk).2.1,fun e => (h0 _ e).2.2.1 hk⟩) (fun _ h => h),fun k hk => ?_⟩
 · exact hg.block r (owns_lt h.ord hr) (fun e => (h0 r e.symm).2.1 hr)
 · obtain ⟨-,C,hC⟩ := hub r hr
   exact hg.block r (Array.getElem?_eq_some_iff.1 hC).1 (fun e => (h0 r e.symm).2.2.2.1 hr)
 · obtain ⟨h1,h2,h3,C,hC⟩ := h.fs k hk
   exact ⟨h1,Nat.lt_of_lt_of_le h2 hg.size,h3,C,grown_cells hg hC (fun e => (h0 _ e).2.2.1 hk)⟩
theorem StdSt.start {bm : Nat} {F : Nat -> Prop} {w0 wr : World} {vo vout : Value} {o : List Int} {rows : Tb} (h : StdSt bm F w0 wr vo vout o rows) (g : Nat) (hg16 : g <= 16) :
   ∃ A c w',(Instr.makeSlice 35 (.int .i64 0) (.int .i64 (2 * (g : Int)))).run Tryz.prog wr = .ok (.slice A 0 c) w' /\ StdSt2 bm F w0 w' vo vout (.slice A 0 c) o rows [] := by
 obtain ⟨i,hi,hz,hs,hb⟩ := info3p
 obtain ⟨w',hr,ho,hg⟩ := run_make_own (P := Tryz.prog) wr w0.heap.size 35 3 i (.int .i64 0) 1 Tryz.underlying35 hi hz hs .i64 .i64 (2 * g) (by rw [hb]; omega) (by unfold maxLen; omega) h.below.size
 have hr' : (Instr.makeSlice 35 (.int .i64 0) (.int .i64 (2 * (g : Int)))).run Tryz.prog wr = .ok (.slice (some ⟨wr.heap.size,0,none⟩) 0 (2 * g)) w' := by
   rw [show (2 * (g : Int)) = ((2 * g : Nat) : Int) by omega]
   exact hr
 refine ⟨_,_,w',hr',h.grown hg (fun r hr => by cases hr),ho,fun r hr => ?_⟩
 have hr2 : wr.heap.size = r := Option.some.inj hr
 subst hr2
 refine ⟨fun e => ?_,fun e => ?_⟩
 · exact absurd (owns_lt h.ord e) (Nat.lt_irrefl _)
 · exact absurd (h.fs _ e).2.1 (Nat.lt_irrefl _)
theorem StdSt2.add {bm : Nat} {F : Nat -> Prop} {w0 wr : World} {vo vout vr : Value} {o : List Int} {rows : Tb} {x : List Int} (h : StdSt2 bm F w0 wr vo vout vr o rows x) (z : Int) (hx : x.length <= 8000000) :
   ∃ A' c' w',(Builtin.append_ #[35,35] 35 #[vr, .slice (some ⟨wr.heap.size,0,none⟩) 1 1]).run Tryz.prog (wr.alloc (.cells #[.int .i64 z] 3)) = .ok (.slice A' (x.length + 1) c') w' /\ StdSt2 bm F w0 w' vo vout (.slice A' (x.length + 1) c') o rows (x ++ [z]) := by
 obtain ⟨A',c',w',hr,ho,hg,hw⟩ := push_int 35 35 Tryz.underlying35 wr w0.heap.size vr x h.row z (by omega) h.st.below.size
 have hrb := owns_block h.row
 have hst : StdSt bm F w0 w' vo vout o rows := h.st.grown hg fun r hr => by
   obtain ⟨h1,C,hC⟩ := hrb r hr
   refine ⟨h1,(h.ap r hr).1,(h.ap r hr).2,fun e => ?_,fun e => ?_⟩
   · obtain ⟨-,C',hC'⟩ := h.st.out.block r e
     rw [hC] at hC'; cases hC'
   · subst e
     obtain ⟨es,cl,hm⟩ := h.st.map.isMapObj
     rw [hC] at hm; cases hm
 refine ⟨A',c',w',hr,hst,ho,fun r hr => ?_⟩
 rcases hw with hw | ⟨r',hr',hge⟩
 · rw [hw] at hr
   exact h.ap r hr
 · have e : r' = r := by rw [hr'] at hr; exact Option.some.inj hr
   subst e
   exact ⟨fun e => absurd (owns_lt h.st.ord e) (by omega),fun e => absurd (h.st.fs _ e).2.1 (by omega)⟩
theorem StdSt2.visit {bm : Nat} {F : Nat -> Prop} {w0 wr : World} {vo vout vr : Value} {o : List Int} {rows : Tb} {x : List Int} (h : StdSt2 bm F w0 wr vo vout vr o rows x) {s : Int} (hs : I64 s) (hn : s ∉ o) (ho : o.length <= 8000000) :
   ∃ wm A' c' w',(Instr.mapUpdate 132 (.map (some bm)) (.int .i64 s) (.int .i64 (o.length : Int))).run Tryz.prog wr = .ok () wm /\
     (Builtin.append_ #[35,35] 35 #[vo, .slice (some ⟨wm.heap.size,0,none⟩) 1 1]).run Tryz.prog (wm.alloc (.cells #[.int .i64 s] 3)) = .ok (.slice A' (o.length + 1) c') w' /\
     StdSt2 bm F w0 w' (.slice A' (o.length + 1) c') vout vr (o ++ [s]) rows x := by
 obtain ⟨wm,hrm,hmm,hgm⟩ := h.st.map.put hs ho hn
 obtain ⟨es,cl,hmo⟩ := h.st.map.isMapObj
 have hne : ∀ {k : Nat} {C : Array Value} {e : TypeId} {fr : Nat × Nat},wr.heap[k]? = some (.cells C e fr) -> (some bm : Option Nat) ≠ some k := fun {k C e fr} hc e' => by
   have : bm = k := Option.some.inj e'
   subst this
   rw [hmo] at hc; cases hc
 have hob := owns_block h.st.ord
 have hrb := owns_block h.row
 have hub := h.st.out.block
 have horm : OwnI w0.heap.size wm vo o := owns_keep h.st.ord fun r hr => by
   obtain ⟨-,C,hC⟩ := hob r hr
   exact (grown_cells hgm hC (hne hC)).trans hC.symm
 have hbm : Below w0.heap.size w0 wm := h.st.below.grown hgm h.st.below.size (fun k hk => by cases hk; exact h.st.bm0)
 obtain ⟨A',c',w',hr,ho',hg,hw⟩ := push_int 35 35 Tryz.underlying35 wm w0.heap.size vo o horm s (by omega) hbm.size
 have hgo : ∀ {k : Nat},vo.ownBlock = some k -> k ≠ bm := fun {k} hk e => by
   subst e
   obtain ⟨-,C,hC⟩ := hob _ hk
   rw [hmo] at hC; cases hC
 refine ⟨wm,A',c',w',hrm,hr,⟨hbm.grown hg hbm.size (fun k hk => (hob k hk).1),h.st.bm0,hmm.kept hg (fun e => hgo e rfl),ho', ?_,fun k hk => ?_⟩, ?_,fun r hr => ?_⟩
 · refine h.st.out.keep (fun r hr => ?_) (fun k hk => ?_) (fun _ h => h)
   · obtain ⟨-,C,hC⟩ := hub r hr
     have h1 := grown_cells hgm hC (hne hC)
     refine (grown_cells hg h1 (fun e => ?_)).trans hC.symm
     obtain ⟨-,C',hC'⟩ := hob r e
     rw [hC] at hC'; cases hC'
   · obtain ⟨h1,h2,h3,C,hC⟩ := h.st.fs k hk
     exact (grown_cells hg (grown_cells hgm hC (hne hC)) (fun e => h3 e)).trans hC.symm
 · obtain ⟨h1,h2,h3,C,hC⟩ := h.st.fs k hk
   refine ⟨h1,Nat.lt_of_lt_of_le h2 (Nat.le_trans hgm.size hg.size),fun e => ?_,C,grown_cells hg (grown_cells hgm hC (hne hC)) (fun e => h3 e)⟩
   rcases hw with hw | ⟨r',hr',hge⟩
   · exact h3 (hw.symm.trans e)
   · rw [hr'] at e
     have : r' = k := Option.some.inj e
     have := hgm.size
     omega
 · exact owns_keep h.row fun r hr => by
     obtain ⟨-,C,hC⟩ := hrb r hr
     exact (grown_cells hg (grown_cells hgm hC (hne hC)) (fun e => (h.ap r hr).1 e)).trans hC.symm
 · refine ⟨fun e => ?_,(h.ap r hr).2⟩
   rcases hw with hw | ⟨r',hr',hge⟩
   · exact (h.ap r hr).1 (hw.symm.trans e)
   · rw [hr'] at e
     have : r' = r := Option.some.inj e
     have := owns_lt h.row hr
     have := hgm.size
     omega
theorem StdSt2.done {bm : Nat} {F : Nat -> Prop} {w0 wr : World} {vo vout : Value} {A : Option Addr} {c : Nat} {o : List Int} {rows : Tb} {x : List Int} (h : StdSt2 bm F w0 wr vo vout (.slice A x.length c) o rows x) (hf : Fits x) (hl : rows.length <= 8000000) :
   ∃ A' c' w',(Builtin.append_ #[48,48] 48 #[vout, .slice (some ⟨wr.heap.size,0,none⟩) 1 1]).run Tryz.prog (wr.alloc (.cells #[.slice A x.length c] 35)) = .ok (.slice A' (rows.length + 1) c') w' /\
     StdSt bm (fun k => F k \/ (Value.slice A x.length c).ownBlock = some k) w0 w' vo (.slice A' (rows.length + 1) c') o (rows ++ [x]) := by
 have hub := h.st.out.block
 have hrb := owns_block h.row
 have hob := owns_block h.st.ord
 have hF2 : ∀ k,(F k \/ (Value.slice A x.length c).ownBlock = some k) -> k < wr.heap.size /\ vout.ownBlock ≠ some k := fun k hk => by
   rcases hk with hk | hk
   · obtain ⟨h1,h2,h3,C,hC⟩ := h.st.fs k hk
     refine ⟨h2,fun e => ?_⟩
     obtain ⟨-,C',hC'⟩ := hub k e
     rw [hC] at hC'; cases hC'
   · obtain ⟨h1,C,hC⟩ := hrb k hk
     refine ⟨(Array.getElem?_eq_some_iff.1 hC).1,fun e => ?_⟩
     obtain ⟨-,C',hC'⟩ := hub k e
     rw [hC] at hC'; cases hC'
 obtain ⟨A',c',w',hr,ho',hg,hw⟩ := push_row (ty := 48) Tryz.underlying48 info24p wr w0.heap.size (fun k => F k \/ (Value.slice A x.length c).ownBlock = some k) vout rows (h.st.out.keep (fun _ _ => rfl) (Ag.refl _ _) (fun k hk => .inl hk)) A x.length c x ((IntsF.of_own h.row hf).mono fun k hk => .inr hk) hF2 (by omega) h.st.below.size
 have hne : ∀ {k : Nat} {C : Array Value} {fr : Nat × Nat},wr.heap[k]? = some (.cells C 3 fr) -> vout.ownBlock ≠ some k := fun {k C fr} hc e => by
   obtain ⟨-,C',hC'⟩ := hub k e
   rw [hc] at hC'; cases hC'
 refine ⟨A',c',w',hr,⟨h.st.below.grown hg h.st.below.size (fun k hk => (hub k hk).1),h.st.bm0,h.st.map.kept hg (fun e => ?_),owns_keep h.st.ord fun r hr => ?_,ho',fun k hk => ?_⟩⟩
 · obtain ⟨es,cl,hm⟩ := h.st.map.isMapObj
   obtain ⟨-,C',hC'⟩ := hub bm e
   rw [hm] at hC'; cases hC'
 · obtain ⟨-,C,hC⟩ := hob r hr
   exact (grown_cells hg hC (hne hC)).trans hC.symm
 · have h2 := (hF2 k hk).1
   rcases hk with hk | hk
   · obtain ⟨h1,_,h3,C,hC⟩ := h.st.fs k hk
     exact ⟨h1,Nat.lt_of_lt_of_le h2 hg.size,h3,C,grown_cells hg hC (hne hC)⟩
   · obtain ⟨h1,C,hC⟩ := hrb k hk
     exact ⟨h1,Nat.lt_of_lt_of_le h2 hg.size,(h.ap k hk).1,C,grown_cells hg hC (hne hC)⟩
end Go.Proofs
namespace Go.Proofs
open Go.RowKit Go.Shelf Go.Proofs.Ct
def XsAt (w : World) (b : Nat) (x : List Int) : Prop := ∃ C : Array Value,w.heap[b]? = some (.cells C 3 (0,0)) /\ x.length <= C.size /\ ∀ k,k < x.length -> C[k]? = some (.int .i64 (x.getD k 0))
theorem getD_set {α : Type} {d : α} (l : List α) (k j : Nat) (v : α) : (l.set k v).getD j d = if k = j /\ k < l.length then v else l.getD j d := by
 rw [List.getD_eq_getElem?_getD,List.getElem?_set,List.getD_eq_getElem?_getD]
 by_cases h : k = j
 · subst h
   by_cases h2 : k < l.length <;> simp [h2]
 · simp [h]
section
variable {w w' : World} {b k : Nat} {x y : List Int}
theorem XsAt.lt (h : XsAt w b x) : b < w.heap.size := by obtain ⟨C,hC, -⟩ := h; exact (Array.getElem?_eq_some_iff.1 hC).1
theorem XsAt.keep (h : XsAt w b x) (hk : w'.heap[b]? = w.heap[b]?) : XsAt w' b x := by
 obtain ⟨C,hC,h2,h3⟩ := h
 exact ⟨C,hk.trans hC,h2,h3⟩
theorem XsAt.below (h : XsAt w b x) (hb : Below w.heap.size w w') : XsAt w' b x := h.keep (hb.block _ h.lt)
theorem XsAt.grown {row : Option Nat} (h : XsAt w b x) (hg : w.grownBy w' row) (hr : row ≠ some b) : XsAt w' b x := h.keep (hg.block _ h.lt (Ne.symm hr))
theorem XsAt.cell (h : XsAt w b x) (hk : k < x.length) : w.cell? ⟨b,k,none⟩ = some (.int .i64 (x.getD k 0)) := by
 obtain ⟨C,hC, -,h3⟩ := h
 rw [cell_of_row _ _ _ _ _ _ hC]; exact h3 k hk
theorem XsAt.frozen (h : XsAt w b x) (k : Nat) : w.frozen? ⟨b,k,none⟩ = false := by
 obtain ⟨C,hC, -⟩ := h
 simp [World.frozen?,hC]
theorem XsAt.set (h : XsAt w b x) (hk : k < x.length) (v : Int) : XsAt (w.setCell ⟨b,k,none⟩ (.int .i64 v)) b (x.set k v) := by
 obtain ⟨C,hC,h2,h3⟩ := h
 refine ⟨C.setIfInBounds k (.int .i64 v),by simp [World.setCell,Array.getElem?_modify,hC],by simpa using h2,fun j hj => ?_⟩
 have hj' : j < x.length := by simpa using hj
 rw [getD_set]
 by_cases e : k = j
 · subst e
   rw [if_pos ⟨rfl,hk⟩]
   have : k < C.size := by omega
   simp [this]
 · rw [if_neg (fun hh => e hh.1),Array.getElem?_setIfInBounds_ne e]
   exact h3 j hj'
theorem XsAt.ints (h : XsAt w b x) {n cap : Nat} (hn : x.length = n) (hc : n <= cap) (hm : cap <= 9223372036854775807) (hf : Fits x) : IntsAt w (.slice (some ⟨b,0,none⟩) n cap) x := by
 refine ⟨⟨_,n,cap,rfl,by simp [_root_.Go.Proofs.ints,hn],hc,by simpa [maxLen] using hm,fun _ => ⟨b,0,rfl,fun j v hv => ?_⟩⟩,hf⟩
 have hj : j < x.length := by have := (List.getElem?_eq_some_iff.1 hv).1; simpa [_root_.Go.Proofs.ints] using this
 rw [Nat.zero_add,h.cell hj, <- hv]
 simp [_root_.Go.Proofs.ints,hj,List.getD_eq_getElem?_getD]
theorem grown_setCell (w : World) (b k : Nat) (v : Value) : w.grownBy (w.setCell ⟨b,k,none⟩ v) (some b) :=
 ⟨rfl,rfl,rfl,by simp [World.setCell],fun i _ hne => Below.heap_setCell w ⟨b,k,none⟩ v i (fun e => hne (by rw [e]))⟩
end
structure OutSt (e : TypeId) (F : Nat -> Prop) (w0 wr : World) (vout : Value) (rows : List (List Int)) : Prop where
 below : Below w0.heap.size w0 wr
 out : OwnT e w0.heap.size F wr vout rows
 fs : ∀ k,F k -> w0.heap.size <= k /\ k < wr.heap.size /\ ∃ C,wr.heap[k]? = some (.cells C 3 (0,0))
structure OutSt2 (e : TypeId) (F : Nat -> Prop) (w0 wr : World) (vout vr : Value) (rows : List (List Int)) (x : List Int) : Prop where
 st : OutSt e F w0 wr vout rows
 row : OwnI w0.heap.size wr vr x
 ap : ∀ r,vr.ownBlock = some r -> ¬ F r
theorem OutSt.nil (e : TypeId) {w0 wr : World} (h : Below w0.heap.size w0 wr) : OutSt e (fun _ => False) w0 wr (.slice none 0 0) [] :=
 ⟨h,⟨[],World.ownsRow_nil _ _ _ _,RowsF.nil _ _⟩,fun _k hk => hk.elim⟩
theorem OutSt.grown {e : TypeId} {F : Nat -> Prop} {w0 wr w' : World} {vout : Value} {rows : List (List Int)} {row : Option Nat} (h : OutSt e F w0 wr vout rows) (hg : wr.grownBy w' row)
   (h0 : ∀ r,row = some r -> w0.heap.size <= r /\ ¬ F r /\ vout.ownBlock ≠ some r) : OutSt e F w0 w' vout rows := by
 have hub := h.out.block
 refine ⟨h.below.grown hg h.below.size (fun k hk => (h0 k hk).1),h.out.keep (fun r hr => ?_) (Ag.grown hg fun k hk => ⟨(h.fs k hk).2.1,fun e => (h0 _ e).2.1 hk⟩) (fun _ h => h),fun k hk => ?_⟩
 · obtain ⟨-,C,hC⟩ := hub r hr
   exact hg.block r (Array.getElem?_eq_some_iff.1 hC).1 (fun e => (h0 r e.symm).2.2 hr)
 · obtain ⟨h1,h2,C,hC⟩ := h.fs k hk
   exact ⟨h1,Nat.lt_of_lt_of_le h2 hg.size,C,grown_cells hg hC (fun e => (h0 _ e).2.1 hk)⟩
theorem OutSt.below' {e : TypeId} {F : Nat -> Prop} {w0 wr w' : World} {vout : Value} {rows : List (List Int)} (h : OutSt e F w0 wr vout rows) (hb : Below wr.heap.size wr w') : OutSt e F w0 w' vout rows :=
 h.grown (row := none) ⟨hb.os,hb.tape,hb.output,hb.size,fun k hk _ => hb.block k hk⟩ (fun r hr => by cases hr)
theorem OutSt2.below' {e : TypeId} {F : Nat -> Prop} {w0 wr w' : World} {vout vr : Value} {rows : List (List Int)} {x : List Int} (h : OutSt2 e F w0 wr vout vr rows x) (hb : Below wr.heap.size wr w') : OutSt2 e F w0 w' vout vr rows x :=
 ⟨h.st.below' hb,owns_below h.row hb,h.ap⟩
theorem OutSt.with_row {e : TypeId} {F : Nat -> Prop} {w0 wr w' : World} {vout vr : Value} {rows : List (List Int)} {x : List Int} (h : OutSt e F w0 wr vout rows) (hb : Below wr.heap.size wr w') (hr : OwnI wr.heap.size w' vr x) : OutSt2 e F w0 w' vout vr rows x :=
 ⟨h.below' hb,owns_base hr h.below.size,fun r hr' hF => by
   have h1 := (owns_block hr r hr').1
   have h2 := (h.fs r hF).2.1
   omega⟩
theorem OutSt2.add {e : TypeId} (he : e ≠ 3) (t : TypeId) (ht : Tryz.prog.underlying t = some (.slice 3)) {F : Nat -> Prop} {w0 wr : World} {vout vr : Value} {rows : List (List Int)} {x : List Int} (h : OutSt2 e F w0 wr vout vr rows x) (z : Int) (hx : x.length <= 9000000) :
   ∃ A' c' w',(Builtin.append_ #[t,t] t #[vr, .slice (some ⟨wr.heap.size,0,none⟩) 1 1]).run Tryz.prog (wr.alloc (.cells #[.int .i64 z] 3)) = .ok (.slice A' (x.length + 1) c') w' /\ OutSt2 e F w0 w' vout (.slice A' (x.length + 1) c') rows (x ++ [z]) := by
 obtain ⟨A',c',w',hr,ho,hg,hw⟩ := push_int t t ht wr w0.heap.size vr x h.row z (by omega) h.st.below.size
 have hrb := owns_block h.row
 have hst : OutSt e F w0 w' vout rows := h.st.grown hg fun r hr => by
   obtain ⟨h1,C,hC⟩ := hrb r hr
   refine ⟨h1,h.ap r hr,fun e' => ?_⟩
   obtain ⟨-,C',hC'⟩ := h.st.out.block r e'
   rw [hC] at hC'
   injection hC' with h5
   injection h5 with _ h6 _
   exact he h6.symm
 refine ⟨A',c',w',hr,hst,ho,fun r hr => ?_⟩
 rcases hw with hw | ⟨r',hr',hge⟩
 · rw [hw] at hr
   exact h.ap r hr
 · have e : r' = r := by rw [hr'] at hr; exact Option.some.inj hr
   subst e
   exact fun e => absurd (h.st.fs _ e).2.1 (by omega)
theorem OutSt2.done {t e : TypeId} (he : e ≠ 3) (ht : Tryz.prog.underlying t = some (.slice e)) (hi : ∃ i,Tryz.prog.info? e = some i /\ i.zero = some (.slice none 0 0) /\ i.size = 1 /\ i.bytes = 24) {F : Nat -> Prop} {w0 wr : World} {vout : Value} {A : Option Addr} {n c : Nat} {rows : List (List Int)} {x : List Int} (h : OutSt2 e F w0 wr vout (.slice A n c) rows x) (hf : Fits x) (hl : rows.length <= 9000000) :
   ∃ A' c' w',(Builtin.append_ #[t,t] t #[vout, .slice (some ⟨wr.heap.size,0,none⟩) 1 1]).run Tryz.prog (wr.alloc (.cells #[.slice A n c] e)) = .ok (.slice A' (rows.length + 1) c') w' /\
     OutSt e (fun k => F k \/ (Value.slice A n c).ownBlock = some k) w0 w' (.slice A' (rows.length + 1) c') (rows ++ [x]) := by
 have hub := h.st.out.block
 have hrb := owns_block h.row
 have hne : ∀ {k : Nat} {C : Array Value} {fr : Nat × Nat},wr.heap[k]? = some (.cells C 3 fr) -> vout.ownBlock ≠ some k := fun {k C fr} hc e' => by
   obtain ⟨-,C',hC'⟩ := hub k e'
   rw [hc] at hC'
   injection hC' with h5
   injection h5 with _ h6 _
   exact he h6.symm
 have hF2 : ∀ k,(F k \/ (Value.slice A n c).ownBlock = some k) -> k < wr.heap.size /\ vout.ownBlock ≠ some k := fun k hk => by
   rcases hk with hk | hk
   · obtain ⟨h1,h2,C,hC⟩ := h.st.fs k hk
     exact ⟨h2,hne hC⟩
   · obtain ⟨h1,C,hC⟩ := hrb k hk
     exact ⟨(Array.getElem?_eq_some_iff.1 hC).1,hne hC⟩
 obtain ⟨A',c',w',hr,ho',hg,hw⟩ := push_row (ty := t) ht hi wr w0.heap.size (fun k => F k \/ (Value.slice A n c).ownBlock = some k) vout rows (h.st.out.keep (fun _ _ => rfl) (Ag.refl _ _) (fun k hk => .inl hk)) A n c x ((IntsF.of_own h.row hf).mono fun k hk => .inr hk) hF2 (by omega) h.st.below.size
 refine ⟨A',c',w',hr,⟨h.st.below.grown hg h.st.below.size (fun k hk => (hub k hk).1),ho',fun k hk => ?_⟩⟩
 have h2 := (hF2 k hk).1
 rcases hk with hk | hk
 · obtain ⟨h1,_,C,hC⟩ := h.st.fs k hk
   exact ⟨h1,Nat.lt_of_lt_of_le h2 hg.size,C,grown_cells hg hC (hne hC)⟩
 · obtain ⟨h1,C,hC⟩ := hrb k hk
   exact ⟨h1,Nat.lt_of_lt_of_le h2 hg.size,C,grown_cells hg hC (hne hC)⟩
end Go.Proofs
