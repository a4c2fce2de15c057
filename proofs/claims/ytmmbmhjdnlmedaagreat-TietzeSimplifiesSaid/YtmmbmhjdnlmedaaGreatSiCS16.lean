/- (*state).shorten: the two loops over the relators; (*state).eliminate: the images are applied. -/
import Derived.Test.YtmmbmhjdnlmedaaGreatSiCS15
import Derived.Test.YtmmbmhjdnlmedaaGreatSiCS10
namespace Go.Proofs
open Go.RowKit Go.Shelf Go.Lib Go.Sort Go.Proofs.Ct Go.Proofs.Tz Go.Maps
attribute [local simp,local go_sem] wideF wideD
attribute [local go_sem] Oper.semAt_some
structure O28 (w0 : World) (xb b1 i : Nat) (A : Option Addr) (ac : Nat) (rels : List (List Int)) (a' : Act) (wr : World) (ds : List Nat) : Prop where
 size : a'.tmps.size = 75
 s0 : a'.tmps.getD 0 undef = .pointer (some ⟨xb,0,none⟩)
 s1 : a'.tmps.getD 1 undef = .pointer (some ⟨b1,0,none⟩)
 s2 : a'.tmps.getD 2 undef = .pointer (some ⟨b1 + 1,0,none⟩)
 s15 : a'.tmps.getD 15 undef = .slice A rels.length ac
 s16 : a'.tmps.getD 16 undef = .int .i64 (rels.length : Int)
 s17 : a'.tmps.getD 17 undef = .int .i64 (i : Int)
 defers : a'.defers = ds.map markD
 marks : Marks w0.heap.size wr ds
 below : Below w0.heap.size w0 wr
 done : ∀ a k,a < i -> k < rels.length -> k ≠ a -> sh2 rels a k = none
 le : i <= rels.length
structure I28 (w0 : World) (xb b1 i k : Nat) (A : Option Addr) (ac : Nat) (rels : List (List Int)) (vr : Value) (a' : Act) (wr : World) (ds : List Nat) : Prop where
 out : O28 w0 xb b1 i A ac rels a' wr ds
 s3 : a'.tmps.getD 3 undef = .int .i64 (i : Int)
 s4 : a'.tmps.getD 4 undef = vr
 s26 : a'.tmps.getD 26 undef = .slice A rels.length ac
 s27 : a'.tmps.getD 27 undef = .int .i64 (rels.length : Int)
 s28 : a'.tmps.getD 28 undef = .int .i64 (k : Int)
 row : ∀ j,j < k -> j ≠ i -> sh2 rels i j = none
 kle : k <= rels.length
def Sh28 (base xb : Nat) (s : Sp) (B : Option Addr) (b : Nat) (C : Option Addr) (c : Nat) (w : World) (e : Ending) (w' : World) : Prop :=
 match shortF s.rels with
 | none => e = .returned (.bool false) /\ Below w.heap.size w w'
 | some l => e = .returned (.bool true) /\ (∃ A a,StX base xb { s with rels := l } 0 w' A a B b C c) /\ BelX (XB xb (.slice C s.back.length c)) w w'
theorem ElT.keepC {r : List Int} {k : Nat} {x : Value} {A B : World} (h : ElT r k x A) (hk : KeepC A B) : ElT r k x B := by
 obtain ⟨A1,n1,c1,B1,m1,d1,e,h1,h2⟩ := h
 exact ⟨A1,n1,c1,B1,m1,d1,e,IntsAt.keepC h1 hk,IntsAt.keepC h2 hk⟩
def cellsT : Value -> Array Value
 | .agg cs => cs
 | _ => #[]
structure X28 (base xb b1 lo : Nat) (s : Sp) (B : Option Addr) (bc : Nat) (C : Option Addr) (cc : Nat) (w W3 W : World) : Prop where
 st : ∃ l A a,shortF s.rels = some l /\ StX base xb { s with rels := l } 0 W A a B bc C cc
 grown : w.grownBy W (some xb)
 size3 : W3.heap.size <= W.heap.size
 res : W.heap[b1 + 1]? = some (.cells #[.bool true] 4 (0,0))
 keep : ∀ (D : Nat) (o : Obj),lo <= D -> W3.heap[D]? = some o -> o.isCells = false -> W.heap[D]? = some o
theorem X28.step {base xb b1 lo : Nat} {s : Sp} {B : Option Addr} {bc : Nat} {C : Option Addr} {cc : Nat} {w W3 W W' : World} (h : X28 base xb b1 lo s B bc C cc w W3 W) (hk : KeepC W W') (hb : Below W3.heap.size W W') (h3 : w.heap.size <= W3.heap.size) : X28 base xb b1 lo s B bc C cc w W3 W' := by
 obtain ⟨l,A,a,e,hs⟩ := h.st
 refine ⟨⟨l,A,a,e,hs.keepC hk⟩,⟨hb.os.trans h.grown.os,hb.tape.trans h.grown.tape,hb.output.trans h.grown.output,Nat.le_trans h.grown.size hb.size,fun k hk hn => (hb.block k (by omega)).trans (h.grown.block k hk hn)⟩,Nat.le_trans h.size3 hb.size,hk.2 _ _ h.res rfl,fun D o hD ho hn => ?_⟩
 exact (hb.block _ (Array.getElem?_eq_some_iff.1 ho).1).trans (h.keep D o hD ho hn)
theorem fold38 (t : Array Value) (x : Value) : (#[38].zip #[x]).foldl (fun t (x : Nat × Value) => t.setIfInBounds x.1 x.2) t = t.setIfInBounds 38 x := by simp
theorem call26c (args : Array Value) (w : World) : (callFunc 23 args).run Tryz.prog w = .ok (.enter 23 args) w := enters_of Tryz.func23 (by kernel_rfl) rfl args w
theorem cln_at {n : Nat} {rels : List (List Int)} (h : Cln n rels) {j : Nat} (hj : j < rels.length) : LOk n (rels.getD j []) /\ CyI (rels.getD j []) /\ (rels.getD j []).length <= 4000 /\ rels.getD j [] ≠ [] := by
 have hm := getD_mem' (l := rels) hj
 exact ⟨h.ok _ hm,h.cy _ hm,Nat.le_trans (lenL_mem hm) h.len,h.ne _ hm⟩
set_option maxRecDepth 100000 in
set_option maxHeartbeats 4000000 in
theorem shorten28_any (base xb : Nat) (s : Sp) (w : World) (A : Option Addr) (ac : Nat) (B : Option Addr) (bc : Nat) (C : Option Addr) (cc : Nat) (hS : StX base xb s 0 w A ac B bc C cc) (hC : Cln s.n s.rels) (hb : base <= w.heap.size) : Calls Tryz.prog 41 #[.pointer (some ⟨xb,0,none⟩)] w (Sh28 base xb s B bc C cc w) := by
 have HS := Lib.hid hS
 have HC := Lib.hid hC
 have HC0 := Lib.hid hC
 have HBS := Lib.hid hb
 have HML := Lib.hid hC.many
 have hL0 : (0 : Int) <= (s.rels.length : Int) := Int.natCast_nonneg _
 have hL1 : (s.rels.length : Int) <= 100 := by have := hC.many; omega
 have HN0 : Hid (Below w.heap.size w ((w.alloc (.cells #[.pointer (some ⟨xb,0,none⟩)] 66)).alloc (.cells #[.bool false] 4))) := Lib.hid (((Below.refl _ _).alloc (Nat.le_refl _) _).alloc (by simp) _)
 have hx1 : ((w.alloc (.cells #[.pointer (some ⟨xb,0,none⟩)] 66)).alloc (.cells #[.bool false] 4)).cell? ⟨xb,1,none⟩ = some (.slice A s.rels.length ac) := (cells5 (hS.below HN0.out).box).2.1
 have HP1 : Hid (((w.alloc (.cells #[.pointer (some ⟨xb,0,none⟩)] 66)).alloc (.cells #[.bool false] 4)).heap[w.heap.size]? = some (.cells #[.pointer (some ⟨xb,0,none⟩)] 66 (0,0))) := Lib.hid ((Below.heap_alloc (w.alloc _) _ w.heap.size (by simp)).trans (heap_alloc_new w _))
 have HP2 : Hid (((w.alloc (.cells #[.pointer (some ⟨xb,0,none⟩)] 66)).alloc (.cells #[.bool false] 4)).heap[w.heap.size + 1]? = some (.cells #[.bool false] 4 (0,0))) := Lib.hid (by have := heap_alloc_new (w.alloc (.cells #[.pointer (some ⟨xb,0,none⟩)] 66)) (.cells #[.bool false] 4); rwa [World.size_alloc] at this)
 have hp1c : ((w.alloc (.cells #[.pointer (some ⟨xb,0,none⟩)] 66)).alloc (.cells #[.bool false] 4)).cell? ⟨w.heap.size,0,none⟩ = some (.pointer (some ⟨xb,0,none⟩)) := by rw [cell_of_row _ _ _ _ _ _ HP1.out]; rfl
 clear hS hC hb
 refine (callsIn_wide (n := 0)).1 ?_
 refine callsIn_of_wp_marks Tryz.func41 rfl trivial ?_ rfl
 simp only [Tryz.ntmps41,List.size_toArray,List.length_cons,List.length_nil,Nat.reduceAdd,Nat.reduceSub,Array.replicate_succ,Array.replicate_zero,List.push_toArray,List.append_toArray,List.nil_append,List.cons_append]
 gi_wp2_with fail
 generalize hw0 : (w.alloc (.cells #[.pointer (some ⟨xb,0,none⟩)] 66)).alloc (.cells #[.bool false] 4) = w0 at *
 have HS0 := Lib.hid (HS.out.below HN0.out)
 have HXC : Hid (∀ W,Below w0.heap.size w0 W -> W.cell? ⟨xb,0,none⟩ = some (.int .i64 (s.n : Int)) /\ W.cell? ⟨xb,1,none⟩ = some (.slice A s.rels.length ac) /\ W.cell? ⟨w.heap.size,0,none⟩ = some (.pointer (some ⟨xb,0,none⟩))) := Lib.hid fun W hb => by
   obtain ⟨q0,q1, -⟩ := cells5 (HS0.out.below hb).box
   refine ⟨q0,q1, ?_⟩
   rw [cell_of_row _ _ _ _ _ _ ((hb.block _ (Array.getElem?_eq_some_iff.1 HP1.out).1).trans HP1.out)]
   rfl
 clear hw0 hx1 hp1c
 refine wpIn_loop (fun a' wr => Hid (∃ (ds : List Nat) (i : Nat),O28 w0 xb w.heap.size i A ac s.rels a' wr ds)) (fun a' _ => s.rels.length - (intOf (a'.tmps.getD 17 undef)).toNat) (Lib.hid ⟨[],0,rfl,rfl,rfl,rfl,rfl,rfl,rfl,rfl,Marks.nil _ _,Below.refl _ _,fun a k ha => absurd ha (by omega),Nat.zero_le _⟩) ?_
 rintro ⟨tm,df⟩ wo ⟨ds,i,hO⟩
 obtain ⟨u,hu,htm⟩ := arr_of_size hO.size
 have e0 := (hu 0).trans hO.s0
 have e1 := (hu 1).trans hO.s1
 have e2 := (hu 2).trans hO.s2
 have e15 := (hu 15).trans hO.s15
 have e16 := (hu 16).trans hO.s16
 have e17 := (hu 17).trans hO.s17
 have hdf : df = ds.map markD := hO.defers
 subst htm
 subst hdf
 have HMK := Lib.hid hO.marks
 have HBW := Lib.hid hO.below
 have HDN := Lib.hid hO.done
 have hile := hO.le
 clear hO hu
 simp only [List.range,List.range.loop,List.map_cons,List.map_nil,e0,e1,e2,e15,e16,e17]
 clear e0 e1 e2 e15 e16 e17
 have hi0 : (0 : Int) <= (i : Int) := Int.natCast_nonneg _
 by_cases hlt : i < s.rels.length
 · have hlt' : (i : Int) < (s.rels.length : Int) := by omega
   obtain ⟨q0,q1,q2⟩ := HXC.out wo HBW.out
   obtain ⟨A',c',e', -, -,hc⟩ := (HS0.out.below HBW.out).rels.tab.open_
   injection e' with e1 _ e3
   subst e1 e3
   obtain ⟨ab,ao,rfl,hcc⟩ := hc (by omega)
   obtain ⟨vr,hvr,hI⟩ := hcc i hlt
   obtain ⟨Ar,cr,rfl, -⟩ := hI.open_
   obtain ⟨lr,hlr⟩ : ∃ lr,lr = (s.rels.getD i []).length := ⟨_,rfl⟩
   rw [<- hlr] at hvr hI
   have HVI : Hid (wo.cell? ⟨ab,ao + i,none⟩ = some (.slice Ar lr cr) /\ ∀ W,Below w0.heap.size w0 W -> W.cell? ⟨ab,ao + i,none⟩ = some (.slice Ar lr cr)) := Lib.hid ⟨hvr,fun W hb => by
     obtain ⟨ab2,ao2,e9,hcc0⟩ := LAt.cells' HS0.out.rels.tab (some ⟨ab,ao,none⟩) _ _ rfl (by omega)
     injection e9 with e9
     injection e9 with e9 e10
     subst e9 e10
     obtain ⟨v9,hv9, -⟩ := hcc0 i hlt
     have h1 := (HBW.out.cell (p := ⟨ab,ao + i,none⟩) (World.block_lt_of_cell? _ _ hv9)).trans hv9
     rw [hvr] at h1
     rw [h1]
     exact (hb.cell (p := ⟨ab,ao + i,none⟩) (World.block_lt_of_cell? _ _ hv9)).trans hv9⟩
   have HLR := Lib.hid hlr
   clear hc hcc hI hlr
   gi_wp2_with fail
   refine wpIn_loop (fun a' wr => Hid (∃ (ds : List Nat) (k : Nat),I28 w0 xb w.heap.size i k (some ⟨ab,ao,none⟩) ac s.rels (.slice Ar lr cr) a' wr ds)) (fun a' _ => s.rels.length - (intOf (a'.tmps.getD 28 undef)).toNat) (Lib.hid ⟨ds,0,⟨rfl,rfl,rfl,rfl,rfl,rfl,rfl,rfl,HMK.out,HBW.out,HDN.out,hile⟩,rfl,rfl,rfl,rfl,rfl,fun j hj => absurd hj (by omega),Nat.zero_le _⟩) ?_
   clear HMK HDN HBW q0 q1 q2
   rintro ⟨tm,df⟩ wr ⟨ds,k,hO⟩
   obtain ⟨u,hu,htm⟩ := arr_of_size hO.out.size
   have e0 := (hu 0).trans hO.out.s0
   have e1 := (hu 1).trans hO.out.s1
   have e2 := (hu 2).trans hO.out.s2
   have e15 := (hu 15).trans hO.out.s15
   have e16 := (hu 16).trans hO.out.s16
   have e17 := (hu 17).trans hO.out.s17
   have e3 := (hu 3).trans hO.s3
   have e4 := (hu 4).trans hO.s4
   have e26 := (hu 26).trans hO.s26
   have e27 := (hu 27).trans hO.s27
   have e28 := (hu 28).trans hO.s28
   have hdf : df = ds.map markD := hO.out.defers
   subst htm
   subst hdf
   have HMK := Lib.hid hO.out.marks
   have HBW := Lib.hid hO.out.below
   have HDN := Lib.hid hO.out.done
   have HRW := Lib.hid hO.row
   have hkle := hO.kle
   clear hO hu hvr
   simp only [List.range,List.range.loop,List.map_cons,List.map_nil,e0,e1,e2,e15,e16,e17,e3,e4,e26,e27,e28]
   clear e0 e1 e2 e15 e16 e17 e3 e4 e26 e27 e28
   have hk0 : (0 : Int) <= (k : Int) := Int.natCast_nonneg _
   by_cases hlk : k < s.rels.length
   · have hlk' : (k : Int) < (s.rels.length : Int) := by omega
     obtain ⟨q0,q1,q2⟩ := HXC.out wr HBW.out
     obtain ⟨ab2,ao2,e9,hcc⟩ := LAt.cells' (HS0.out.below HBW.out).rels.tab (some ⟨ab,ao,none⟩) _ _ rfl (by omega)
     injection e9 with e9
     injection e9 with e9 e10
     subst e9 e10
     obtain ⟨vk,hvk,hI⟩ := hcc k hlk
     obtain ⟨Ak,ck,rfl, -⟩ := hI.open_
     obtain ⟨lk,hlk2⟩ : ∃ lk,lk = (s.rels.getD k []).length := ⟨_,rfl⟩
     rw [<- hlk2] at hvk hI
     have HVK := Lib.hid hI
     have HLK := Lib.hid hlk2
     clear hlk2
     clear hcc hI
     by_cases hik : k = i
     · subst hik
       have hbi : ((k : Int) == (k : Int)) = true := by simp
       gi_wp2_with fail
       have HBA : Hid (Below wr.heap.size wr ((wr.alloc (.cells #[.int .i64 (k : Int)] 3)).alloc (.cells #[.slice Ak lk ck] 36))) := Lib.hid (((Below.refl _ _).alloc (Nat.le_refl _) _).alloc (by simp) _)
       exact ⟨Lib.hid ⟨ds,k + 1,⟨rfl,rfl,rfl,rfl,rfl,rfl,rfl,rfl,HMK.out.below HBA.out,HBW.out.trans (HBA.out.mono HBW.out.size),HDN.out,hile⟩,rfl,rfl,rfl,rfl,congrArg (Value.int .i64) (by omega : (k : Int) + 1 = ((k + 1 : Nat) : Int)),fun j hj hne => HRW.out j (by omega) hne,by omega⟩,by simp [intOf]; omega⟩
     · have hbi : ((i : Int) == (k : Int)) = false := by simp; omega
       have hbi2 : ¬ (i : Int) = (k : Int) := by omega
       have HALL : Hid (∀ j,j < s.rels.length -> LOk s.n (s.rels.getD j []) /\ CyI (s.rels.getD j []) /\ (s.rels.getD j []).length <= 4000 /\ s.rels.getD j [] ≠ []) := Lib.hid fun j hj => cln_at HC.out hj
       obtain ⟨ri,hri⟩ : ∃ ri,ri = s.rels.getD i [] := ⟨_,rfl⟩
       obtain ⟨sk,hsk⟩ : ∃ sk,sk = s.rels.getD k [] := ⟨_,rfl⟩
       obtain ⟨hrok,hrcy,hrl,hrn⟩ := HALL.out i hlt
       obtain ⟨hsok,hscy,hsl,hsn⟩ := HALL.out k hlk
       rw [<- hri] at hrok hrcy hrl hrn
       rw [<- hsk] at hsok hscy hsl hsn
       have hlri : lr = ri.length := by rw [hri]; exact HLR.out
       have hlsk : lk = sk.length := by rw [hsk]; exact HLK.out
       subst hlri
       subst hlsk
       have hn16 : s.n <= 16 := HC.out.n16
       have HRM : Hid (∀ z ∈ ri,Mild z) := Lib.hid (mild_ok (by omega) hrok)
       have HSM : Hid (∀ z ∈ sk,Mild z) := Lib.hid (mild_ok (by omega) hsok)
       have HINV : Hid ((invW ri).length = ri.length) := Lib.hid (by rw [hrcy.invW]; exact length_inv' ri)
       have HTM : Hid (∀ t ∈ turnsW ri,t.length = ri.length /\ LOk s.n t) := Lib.hid fun t ht => ⟨(turns_mem hrcy ht).1,(turns_mem hrcy ht).2.2 _ hrok⟩
       have HRL := Lib.hid hrl
       have HSL := Lib.hid hsl
       have HRN := Lib.hid hrn
       have HSOK := Lib.hid hsok
       have HRI := Lib.hid hri
       have HSK := Lib.hid hsk
       have HBA : Hid (Below wr.heap.size wr ((wr.alloc (.cells #[.int .i64 (k : Int)] 3)).alloc (.cells #[.slice Ak sk.length ck] 36))) := Lib.hid (((Below.refl _ _).alloc (Nat.le_refl _) _).alloc (by simp) _)
       have HVRW : Hid (IntsAt wr (.slice Ar ri.length cr) ri) := Lib.hid (by
         have h9 := (HS0.out.below HBW.out).rels.tab
         obtain ⟨ab2,ao2,e9,hcc⟩ := LAt.cells' h9 (some ⟨ab,ao,none⟩) _ _ rfl (by omega)
         injection e9 with e9
         injection e9 with e9 e10
         subst e9 e10
         obtain ⟨v9,hv9,hi9⟩ := hcc i hlt
         have h8 := HVI.out.2 wr HBW.out
         rw [h8] at hv9
         obtain rfl := Option.some.inj hv9
         rw [<- hri] at hi9
         exact hi9)
       have HT := Lib.hid (turns48_any ((wr.alloc (.cells #[.int .i64 (k : Int)] 3)).alloc (.cells #[.slice Ak sk.length ck] 36)) (.slice Ar ri.length cr) ri (HVRW.out.below HBA.out))
       clear hrok hrcy hrl hrn hsok hscy hsl hsn hri hsk
       gi_wp2_with (refine CallsIn.mono (show CallsIn Fence.wide _ _ _ _ _ _ from callsIn_wide.2 HT.out) ?_; rintro e w2 ⟨rfl,rfl⟩)
       obtain ⟨W3,hW3⟩ : ∃ W3,W3 = ((wr.alloc (.cells #[.int .i64 (k : Int)] 3)).alloc (.cells #[.slice Ak sk.length ck] 36)).alloc (.cells #[.slice Ar ri.length cr] 36) := ⟨_,rfl⟩
       rw [<- hW3]
       have hz3 : W3.heap.size = wr.heap.size + 3 := by rw [hW3]; simp
       have hb3 : Below wr.heap.size wr W3 := by rw [hW3]; exact (HBA.out).alloc (by simp; omega) _
       have hk1 : W3.heap[wr.heap.size]? = some (.cells #[.int .i64 (k : Int)] 3 (0,0)) := by
         rw [hW3]
         exact (Below.heap_alloc _ _ _ (by simp; omega)).trans ((Below.heap_alloc _ _ _ (by simp)).trans (heap_alloc_new wr _))
       have hk2 : W3.heap[wr.heap.size + 1]? = some (.cells #[.slice Ak sk.length ck] 36 (0,0)) := by
         rw [hW3]
         refine (Below.heap_alloc _ _ _ (by simp)).trans ?_
         have := heap_alloc_new (wr.alloc (.cells #[.int .i64 (k : Int)] 3)) (.cells #[.slice Ak sk.length ck] 36)
         rwa [World.size_alloc] at this
       have hk3 : W3.heap[wr.heap.size + 2]? = some (.cells #[.slice Ar ri.length cr] 36 (0,0)) := by
         rw [hW3]
         have := heap_alloc_new ((wr.alloc (.cells #[.int .i64 (k : Int)] 3)).alloc (.cells #[.slice Ak sk.length ck] 36)) (.cells #[.slice Ar ri.length cr] 36)
         rwa [World.size_alloc,World.size_alloc] at this
       have HZ3 := Lib.hid hz3
       have HB3 := Lib.hid hb3
       have HK1 := Lib.hid hk1
       have HK2 := Lib.hid hk2
       have HK3 := Lib.hid hk3
       have HB03 : Hid (Below w0.heap.size w0 W3) := Lib.hid (HBW.out.trans (hb3.mono HBW.out.size))
       have HVR3 : Hid (IntsAt W3 (.slice Ar ri.length cr) ri) := Lib.hid (HVRW.out.below hb3)
       have HVK3 : Hid (IntsAt W3 (.slice Ak sk.length ck) sk) := Lib.hid (by rw [HSK.out] at HVK ⊢; exact HVK.out.below hb3)
       have HBS3 : Hid (w.heap.size <= W3.heap.size) := Lib.hid (Nat.le_trans HN0.out.size HB03.out.size)
       clear hW3 hz3 hb3 hk1 hk2 hk3 HT HVRW HBA HVK
       refine wpIn_rangeValsB (α := Value) (gf := 117) (lb := #[.pointer (some ⟨wr.heap.size + 2,0,none⟩)]) rfl (enters_of Tryz.func117 (by kernel_rfl) rfl) (encs := fun x => #[x]) (2 * ri.length) (fun j x W => ElT ri j x W) (fun A B => KeepC A B)
         (fun h k => h.trans k) (fun W l o o' hl ho hn => KeepC.putObj ho hn) (fun _ => rfl) (fun j x A l o o' h hl ho hn => h.keepC (KeepC.putObj ho hn))
         (fun l J Jx W hb hJa hJx hY h0 => turn70 _ l (wr.heap.size + 2) J Jx W Ar cr ri ((hb.block _ (Array.getElem?_eq_some_iff.1 HK3.out).1).trans HK3.out) (HVR3.out.below hb) HRL.out HRM.out HINV.out hJa hY h0)
         (fun j W => Hid (Below W3.heap.size W3 W /\ ∀ m,m < j -> shortW sk ((turnsW ri).getD m []) = none)) (fun _ W => Hid (X28 base xb w.heap.size w0.heap.size s B bc C cc w W3 W))
         (fun j A B h hb => Lib.hid ⟨h.out.1.trans (hb.mono h.out.1.size),h.out.2⟩)
         (fun j A B h hb => Lib.hid (h.out.step (KeepC.of_below hb) (hb.mono h.out.size3) HBS3.out))
         (fun j A l o o' h hl ho hn => Lib.hid ⟨h.out.1.trans ⟨rfl,rfl,rfl,by simp,fun q hq => World.putObj_heap_other (by omega)⟩,h.out.2⟩)
         (fun j A l o o' h hl ho hn => Lib.hid (h.out.step (KeepC.putObj ho hn) ⟨rfl,rfl,rfl,by simp,fun q hq => World.putObj_heap_other (by omega)⟩ HBS3.out))
         (Lib.hid ⟨Below.refl _ _,fun m hm => absurd hm (by omega)⟩) 110 cellsT (fun x W => W.alloc (.cells (cellsT x) 110)) (fun x W => ⟨(Below.refl _ _).alloc (Nat.le_refl _) _,heap_alloc_new W _⟩) (fun _ hb => KeepC.of_below hb) (fun j x A B h hb => h.keepC (KeepC.of_below hb)) 7 ?assign ?body ?done ?stop
       case assign =>
         rintro l j x W K ⟨A1,n1,c1,B1,m1,d1,rfl,hi1,hi2⟩ hK
         gi_wp2_with (rw [Oper.semAt_eq _ _ _ (fun c h => by cases h)]; go_simp)
         rw [fold38] at hK
         exact hK
       case body =>
         rintro l j x bx W hIB hjN ⟨A1,n1,c1,B1,m1,d1,rfl,hi1,hi2⟩ hbx hbc
         rw [fold38]
         simp only [List.setIfInBounds_toArray,List.set_cons_succ,List.set_cons_zero]
         obtain ⟨hb3W,hno⟩ := hIB.out
         have HB3W := Lib.hid hb3W
         have HNO := Lib.hid hno
         have HBW2 : Hid (Below w0.heap.size w0 W) := Lib.hid (HB03.out.trans (hb3W.mono HB03.out.size))
         obtain ⟨t,htd⟩ : ∃ t,t = (turnsW ri).getD j [] := ⟨_,rfl⟩
         rw [<- htd] at hi1 hi2
         have hjt : j < (turnsW ri).length := by rw [turns_len HINV.out]; exact hjN
         obtain ⟨htl,htok⟩ := HTM.out t (by rw [htd]; exact getD_mem' hjt)
         have htn : t ≠ [] := fun e => HRN.out (List.eq_nil_of_length_eq_zero (by rw [<- htl,e]; rfl))
         have htm : ∀ z ∈ t,Mild z := mild_ok (by omega) htok
         have hsh : shortM sk (t.take (ri.length / 2 + 1)) (t.drop (ri.length / 2 + 1)) = shortW sk t := by rw [<- htl]; exact shortM_shortW htn
         have hc49 := shorter49_any W (.slice Ak sk.length ck) (.slice A1 n1 c1) (.slice B1 m1 d1) sk _ _ (HVK3.out.below hb3W) hi1 hi2 HSL.out (by rw [List.length_take]; have := HRL.out; omega) (by rw [List.length_drop]; have := HRL.out; omega) HSM.out (fun z hz => htm z (List.mem_of_mem_drop hz))
         unfold ShortPost at hc49
         rw [hsh] at hc49
         have hcs : W.cell? ⟨wr.heap.size + 1,0,none⟩ = some (.slice Ak sk.length ck) := by rw [cell_of_row _ _ _ _ _ _ ((hb3W.block _ (Array.getElem?_eq_some_iff.1 HK2.out).1).trans HK2.out)]; rfl
         obtain ⟨hcb1,hcb2⟩ := cell_of2 (show W.heap[bx]? = some (.cells #[.slice A1 n1 c1, .slice B1 m1 d1] 110 (0,0)) from hbc)
         have HTD := Lib.hid htd
         have HTL := Lib.hid htl
         have HTOK := Lib.hid htok
         have HTN := Lib.hid htn
         have HJT := Lib.hid hjt
         clear hIB hb3W hno htd htl htok htn htm hi1 hi2 hsh hjt
         cases hr : shortW sk t with
         | none =>
           rw [hr] at hc49
           have HC := Lib.hid hc49
           have HRN2 := Lib.hid hr
           clear hc49 hr
           gi_wp2_with (first
             | (refine CallsIn.mono (show CallsIn Fence.wide _ _ _ _ _ _ from callsIn_wide.2 HC.out) ?_; rintro e W2 ⟨rfl,hb2⟩
                have HB2 := Lib.hid hb2
                clear hb2)
             | (rw [Oper.semAt_eq _ _ _ (fun c h => by cases h)]; go_simp))
           refine ⟨⟨HB2.out.size,fun q o _ ho _ => (HB2.out.block q (Array.getElem?_eq_some_iff.1 ho).1).trans ho⟩,KeepC.of_below HB2.out,Lib.hid ⟨HB3W.out.trans (HB2.out.mono HB3W.out.size),fun m hm => ?_⟩⟩
           rcases Nat.lt_succ_iff_lt_or_eq.1 hm with h | rfl
           · exact HNO.out m h
           · rw [<- HTD.out]; exact HRN2.out
         | some x =>
           rw [hr] at hc49
           have HC := Lib.hid hc49
           have HRX := Lib.hid hr
           obtain ⟨hxl,hxok⟩ := shortW_some HTN.out hr
           have hxk : LOk s.n x := hxok _ HSOK.out HTOK.out
           have HXF : Hid (Fits x) := Lib.hid (Mild.fits (mild_ok (by omega) hxk))
           have hpe : presE ((s.n : Nat) : Int) (s.rels.set k x) = 0 := by
             refine presE_of ⟨HC0.out.n1,HC0.out.n16⟩ (by rw [List.length_set]; exact HC0.out.many) (fun z hz => ?_) (Nat.le_trans (lenL_set _ _ _ (by rw [<- HSK.out]; omega)) HC0.out.len)
             rcases List.mem_or_eq_of_mem_set hz with h | rfl
             · exact HC0.out.ok _ h
             · exact hxk
           have HPE := Lib.hid hpe
           have HSH : Hid (shortF s.rels = some (cleanL (s.rels.set k x))) := Lib.hid (shortF_at HDN.out HRW.out hlt hlk hik (sh2_at (m := j) (fun m hm => by rw [<- HRI.out, <- HSK.out]; exact HNO.out m hm) (by rw [<- HRI.out]; exact HJT.out) (by rw [<- HRI.out, <- HSK.out, <- HTD.out]; exact HRX.out)))
           obtain ⟨q00,q01,q02⟩ := HXC.out W HBW2.out
           have HXB : Hid (xb < w.heap.size /\ w.heap.size + 1 < w0.heap.size) := Lib.hid ⟨(Array.getElem?_eq_some_iff.1 HS.out.box).1,(Array.getElem?_eq_some_iff.1 HP2.out).1⟩
           have hLpos : 0 < s.rels.length := by omega
           clear hc49 hr hxl hxok hxk hpe q00 q01 q02
           gi_wp2_with (first
             | (refine CallsIn.mono (show CallsIn Fence.wide _ _ _ _ _ _ from callsIn_wide.2 HC.out) ?_; rintro e W2 ⟨⟨A5,c5,rfl,ho⟩,hb2⟩
                have HB2 := Lib.hid hb2
                have HO := Lib.hid ho
                have HBW3 := Lib.hid (HBW2.out.trans (hb2.mono HBW2.out.size))
                obtain ⟨p0,p1,p2⟩ := HXC.out W2 HBW3.out
                have HC50 := Lib.hid (clone50_any W2 (.slice (some ⟨ab,ao,none⟩) s.rels.length ac) s.rels (HS0.out.below HBW3.out).rels.tab (by have := HML.out; omega))
                clear hb2 ho)
             | (refine CallsIn.mono (show CallsIn Fence.wide _ _ _ _ _ _ from callsIn_wide.2 HC50.out) ?_; rintro e W4 ⟨A6,c6,rfl,ho6,hb4⟩
                obtain ⟨g,rfl⟩ := ho6.some_ hLpos
                have hg2 : W2.heap.size <= g := (ho6.block g rfl).1
                have h5 := owns_below HO.out hb4
                obtain ⟨hT,⟨z,hz⟩,hfz, -, -⟩ := own_put ho6 (fun r hr => by omega) (IntsF.of_own h5 HXF.out) (fun r hr => by have := owns_lt HO.out hr; omega) hlk rfl
                have HT := Lib.hid hT
                have HG2 := Lib.hid hg2
                have HB4 := Lib.hid hb4
                have hk4 : W4.cell? ⟨wr.heap.size,0,none⟩ = some (.int .i64 (k : Int)) := by rw [cell_of_row _ _ _ _ _ _ ((((HB3W.out.trans (HB2.out.mono HB3W.out.size)).trans (hb4.mono (HB3W.out.trans (HB2.out.mono HB3W.out.size)).size)).block _ (Array.getElem?_eq_some_iff.1 HK1.out).1).trans HK1.out)]; rfl
                clear hT hg2 hb4 h5 ho6 p0 p1 p2)
             | (rw [Oper.semAt_eq _ _ _ (fun c h => by cases h)]; go_simp))
           obtain ⟨W5,hW5⟩ : ∃ W5,W5 = W4.setCell ⟨g,k,none⟩ (.slice A5 x.length c5) := ⟨_,rfl⟩
           rw [<- hW5]
           have hT5 := HT.out
           rw [<- hW5] at hT5
           have hb25 : Below W2.heap.size W2 W5 := by
             rw [hW5]
             exact HB4.out.trans ⟨rfl,rfl,rfl,by simp [World.setCell],fun q hq => Below.heap_setCell W4 ⟨g,k,none⟩ _ q (by show q ≠ g; have := HG2.out; omega)⟩
           have HT5 := Lib.hid hT5
           have HB05 : Hid (Below w0.heap.size w0 W5) := Lib.hid (HBW3.out.trans (hb25.mono HBW3.out.size))
           have HBW5 : Hid (Below W.heap.size W W5) := Lib.hid (HB2.out.trans (hb25.mono HB2.out.size))
           have HCLN : Hid (∀ W',Below W5.heap.size W5 W' -> Calls Tryz.prog 23 #[.agg #[.int .i64 (s.n : Int), .slice (some ⟨g,0,none⟩) s.rels.length c6]] W' (CleanPost (s.n : Int) (s.rels.set k x) W')) := Lib.hid fun W' hb => clean26_ok W' _ _ _ (kept_tab.below hT5 hb) HPE.out
           have HXC5 : Hid (∀ W',W5.grownBy W' (some xb) -> W'.cell? ⟨w.heap.size,0,none⟩ = some (.pointer (some ⟨xb,0,none⟩))) := Lib.hid fun W' hg => by
             have h1 := (HB05.out.block _ (Array.getElem?_eq_some_iff.1 HP1.out).1).trans HP1.out
             have h2 := (hg.block _ (Array.getElem?_eq_some_iff.1 h1).1 (by have := HXB.out.1; simp; omega)).trans h1
             rw [cell_of_row _ _ _ _ _ _ h2]; rfl
           have HBOX5 : Hid (W5.heap[xb]? = some (.cells #[.int .i64 (s.n : Int), .slice (some ⟨ab,ao,none⟩) s.rels.length ac, .slice B s.into.length bc, .slice C s.back.length cc, .int .i64 0] 68 (0,0))) := Lib.hid (HS0.out.below HB05.out).box
           obtain ⟨X,hXd⟩ : ∃ X : Nat -> Prop,X = fun q => XB xb (.slice C s.back.length cc) q \/ q = w.heap.size + 1 := ⟨_,rfl⟩
           have hXx : X xb := by rw [hXd]; exact .inl (.inl rfl)
           have HXLT : Hid (∀ q,X q -> q < w0.heap.size) := Lib.hid fun q hq => by
             rw [hXd] at hq
             rcases hq with hq | hq
             · have := HS.out.xlt q hq; have := HXB.out; omega
             · have := HXB.out; omega
           obtain ⟨l',hl'⟩ : ∃ l',l' = cleanL (s.rels.set k x) := ⟨_,rfl⟩
           have HLD := Lib.hid hl'
           have hr6 : s.rels.length = s.rels.length := rfl
           unfold CleanPost at HCLN
           rw [<- hl'] at HCLN
           clear hW5 hT5 hb25 hz hfz hk4 hr6 hl'
           refine wpIn_region_all (by kernel_rfl) 19 rfl (fun i => if i < 10 then some (57 + i) else if i = 10 then some 56 else if i < 15 then some (56 + i) else if i = 15 then none else if i < 18 then some (55 + i) else none) (lex_of (by kernel_rfl))
             (fun ls W' => W5.grownBy W' (some xb) /\ (ls 15 = false -> ls 18 = false -> Below W5.heap.size W5 W') /\ (if ls 15 = true then ∃ A a,W'.heap[xb]? = some (.cells #[.int .i64 (s.n : Int), .slice A l'.length a, .slice B s.into.length bc, .slice C s.back.length cc, .int .i64 0] 68 (0,0)) /\ TabX X W' (.slice A l'.length a) l' else W'.heap[xb]? = some (.cells #[.int .i64 (s.n : Int), .slice (some ⟨ab,ao,none⟩) s.rels.length ac, .slice B s.into.length bc, .slice C s.back.length cc, .int .i64 0] 68 (0,0))))
             (fun i v W' => (([.eq (.pointer (some ⟨xb,0,none⟩)), .eq (.pointer (some ⟨xb,0,none⟩)), .eq (.pointer (some ⟨xb,0,none⟩)), .eq (.pointer (some ⟨xb,0,none⟩)), .eq (.pointer (some ⟨xb,0,none⟩)), .eq (.pointer (some ⟨xb,0,none⟩)), .eq (.int .i64 (s.n : Int)), .eq (.slice (some ⟨g,0,none⟩) s.rels.length c6), .eq (.agg #[.int .i64 (s.n : Int), .slice (some ⟨g,0,none⟩) s.rels.length c6]), .tup (s.n : Int) l', .tup (s.n : Int) l', .agg (s.n : Int) l', .eq (.int .i64 0), .eq (.pointer (some ⟨xb,0,none⟩)), .eq (.pointer (some ⟨xb,0,none⟩)), .eq undef, .eq (.pointer (some ⟨xb,0,none⟩)), .eq (.pointer (some ⟨xb,4,none⟩)), .eq undef] : List SlC).getD i (.eq undef)).holds X v W')
             (fun _ w1 w2 => w1.grownBy w2 (some xb)) (dm_inj (by kernel_rfl)) (fun i j v w1 w2 _ _ _ h => SlC.keep hXx h) (dm_lt (n := 75) (by kernel_rfl)) ⟨below_grown (Below.refl W5.heap.size W5).drew,fun _ _ => (Below.refl _ _).drew,HBOX5.out⟩ ?_ ?_
           · intro ls q o a w6 hq ho hS hls hcl hP hpre
             obtain ⟨hS1,hS2,hS3⟩ := hS
             have hcases : q = 0 \/ q = 1 \/ q = 2 \/ q = 3 \/ q = 4 \/ q = 5 \/ q = 6 \/ q = 7 \/ q = 8 \/ q = 9 \/ q = 10 \/ q = 11 \/ q = 12 \/ q = 13 \/ q = 14 \/ q = 15 \/ q = 16 \/ q = 17 \/ q = 18 := by
               have : q < 19 := hq
               omega
             have hkp : ∀ q,q ≠ 15 -> q ≠ 18 -> (W5.grownBy w6 (some xb) /\ (((fun j => if q = j then true else ls j) 15 = false -> (fun j => if q = j then true else ls j) 18 = false -> Below W5.heap.size W5 w6)) /\ (if (fun j => if q = j then true else ls j) 15 = true then ∃ A a,w6.heap[xb]? = some (.cells #[.int .i64 (s.n : Int), .slice A l'.length a, .slice B s.into.length bc, .slice C s.back.length cc, .int .i64 0] 68 (0,0)) /\ TabX X w6 (.slice A l'.length a) l' else w6.heap[xb]? = some (.cells #[.int .i64 (s.n : Int), .slice (some ⟨ab,ao,none⟩) s.rels.length ac, .slice B s.into.length bc, .slice C s.back.length cc, .int .i64 0] 68 (0,0)))) := fun q h1 h2 => by
               simp only [if_neg h1,if_neg h2]
               exact ⟨hS1,hS2,hS3⟩
             have hbx6 : ∃ y,w6.heap[xb]? = some (.cells #[.int .i64 (s.n : Int),y, .slice B s.into.length bc, .slice C s.back.length cc, .int .i64 0] 68 (0,0)) := by
               split at hS3
               · obtain ⟨A,a,h1, -⟩ := hS3; exact ⟨_,h1⟩
               · exact ⟨_,hS3⟩
             rcases hcases with rfl | rfl | rfl | rfl | rfl | rfl | rfl | rfl | rfl | rfl | rfl | rfl | rfl | rfl | rfl | rfl | rfl | rfl | rfl
             · obtain rfl := Option.some.inj ho
               exact wpOpIn_of rfl rfl (wpR_val (fun c h => by cases h) (r_load1 66 agg63 (.tmp 1) ⟨w.heap.size,0,none⟩ rfl (hP.out 1 (dm_out (by kernel_rfl))) (HXC5.out _ hS1)) ⟨_,rfl,hkp 0 (by decide) (by decide),World.grownBy.refl _ _,(fun h => by simp at h),rfl⟩)
             · obtain rfl := Option.some.inj ho
               exact wpOpIn_of rfl rfl (wpR_val (fun c h => by cases h) (r_load1 66 agg63 (.tmp 1) ⟨w.heap.size,0,none⟩ rfl (hP.out 1 (dm_out (by kernel_rfl))) (HXC5.out _ hS1)) ⟨_,rfl,hkp 1 (by decide) (by decide),World.grownBy.refl _ _,(fun h => by simp at h),rfl⟩)
             · obtain rfl := Option.some.inj ho
               exact wpOpIn_of rfl rfl (wpR_val (fun c h => by cases h) (r_load1 66 agg63 (.tmp 1) ⟨w.heap.size,0,none⟩ rfl (hP.out 1 (dm_out (by kernel_rfl))) (HXC5.out _ hS1)) ⟨_,rfl,hkp 2 (by decide) (by decide),World.grownBy.refl _ _,(fun h => by simp at h),rfl⟩)
             · obtain rfl := Option.some.inj ho
               exact wpOpIn_of rfl rfl (wpR_val (fun c h => by cases h) (r_nil (.tmp 59) _ rfl (hpre ⟨2, .data⟩ (by simp) rfl).2) ⟨_,rfl,hkp 3 (by decide) (by decide),World.grownBy.refl _ _,(fun h => by simp at h),rfl⟩)
             · obtain rfl := Option.some.inj ho
               exact wpOpIn_of rfl rfl (wpR_val (fun c h => by cases h) (r_fld (.tmp 60) _ rfl (hpre ⟨3, .data⟩ (by simp) rfl).2 (fld65_0 xb _)) ⟨_,rfl,hkp 4 (by decide) (by decide),World.grownBy.refl _ _,(fun h => by simp at h),rfl⟩)
             · obtain rfl := Option.some.inj ho
               exact wpOpIn_of rfl rfl (wpR_val (fun c h => by cases h) (r_fld (.tmp 61) _ rfl (hpre ⟨4, .data⟩ (by simp) rfl).2 (fld27_0 xb _)) ⟨_,rfl,hkp 5 (by decide) (by decide),World.grownBy.refl _ _,(fun h => by simp at h),rfl⟩)
             · obtain rfl := Option.some.inj ho
               obtain ⟨y,hy⟩ := hbx6
               exact wpOpIn_of rfl rfl (wpR_val (fun c h => by cases h) (r_load1 3 agg3 (.tmp 62) ⟨xb,0,none⟩ rfl (hpre ⟨5, .data⟩ (by simp) rfl).2 (cells5 hy).1) ⟨_,rfl,hkp 6 (by decide) (by decide),World.grownBy.refl _ _,(fun h => by simp at h),rfl⟩)
             · obtain rfl := Option.some.inj ho
               exact wpOpIn_of rfl rfl (wpR_val (fun c h => by cases h) (r_move (.tmp 10) rfl (hP.out 10 (dm_out (by kernel_rfl)))) ⟨_,rfl,hkp 7 (by decide) (by decide),World.grownBy.refl _ _,(fun h => by simp at h),rfl⟩)
             · obtain rfl := Option.some.inj ho
               exact wpOpIn_of rfl rfl (wpR_val (fun c h => by cases h) (r_build40s (.tmp 63) (.tmp 64) (s.n : Int) (some ⟨g,0,none⟩) s.rels.length c6 rfl (hpre ⟨6, .data⟩ (by simp) rfl).2 (hpre ⟨7, .data⟩ (by simp) rfl).2) ⟨_,rfl,hkp 8 (by decide) (by decide),World.grownBy.refl _ _,(fun h => by simp at h),rfl⟩)
             · obtain rfl := Option.some.inj ho
               have h10 := not_yet hcl 10 rfl ⟨9, .data⟩ (by simp) rfl hls
               have h11 := not_yet hcl 11 rfl ⟨10, .data⟩ (by simp) rfl h10
               have h12 := not_yet hcl 12 rfl ⟨10, .data⟩ (by simp) rfl h10
               have h15 := not_yet hcl 15 rfl ⟨11, .data⟩ (by simp) rfl h11
               have h18 := not_yet hcl 18 rfl ⟨12, .data⟩ (by simp) rfl h12
               have hB6 := hS2 h15 h18
               rw [if_neg (by rw [h15]; simp)] at hS3
               have hcl9 : Calls Tryz.prog 23 #[.agg #[.int .i64 (s.n : Int), .slice (some ⟨g,0,none⟩) s.rels.length c6]] w6 fun e w7 => ∃ v,e = .returned v /\ ((SlC.tup (s.n : Int) l').holds X v w7 /\ Below w6.heap.size w6 w7) := (HCLN.out w6 hB6).mono fun e w7 ⟨A,c,F,h1,h2⟩ => ⟨_,h1,⟨A,c,rfl,TabX.new h2 fun q hq => Nat.lt_of_lt_of_le (HXLT.out q hq) (Nat.le_trans HB05.out.size hB6.size)⟩,h2.below⟩
               exact wpOpIn_of rfl rfl (wpR_call (fun c h => by cases h) (r_call1 (.tmp 65) _ _ rfl (hpre ⟨8, .data⟩ (by simp) rfl).2 call26c) hcl9 fun v w7 hR => ⟨v,rfl,⟨grown_trans hS1 (below_grown hR.2),fun _ _ => hB6.trans (hR.2.mono hB6.size),by
                 rw [if_neg (by simp [h15])]
                 exact (hR.2.block _ (Array.getElem?_eq_some_iff.1 hS3).1).trans hS3⟩,below_grown hR.2,(fun h => by simp at h),hR.1⟩)
             · obtain rfl := Option.some.inj ho
               exact wpOpIn_of rfl rfl (wpR_val (fun c h => by cases h) (r_move (.tmp 66) rfl rfl) ⟨_,rfl,hkp 10 (by decide) (by decide),World.grownBy.refl _ _,(fun h => by simp at h),(hpre ⟨9, .data⟩ (by simp) rfl).2⟩)
             · obtain rfl := Option.some.inj ho
               obtain ⟨A9,c9,e9,k9⟩ := (hpre ⟨10, .data⟩ (by simp) rfl).2
               exact wpOpIn_of rfl rfl (wpR_val (fun c h => by cases h) (r_extract 0 (.tmp 56) _ rfl e9 rfl) ⟨_,rfl,hkp 11 (by decide) (by decide),World.grownBy.refl _ _,(fun h => by simp at h),A9,c9,rfl,k9⟩)
             · obtain rfl := Option.some.inj ho
               obtain ⟨A9,c9,e9,k9⟩ := (hpre ⟨10, .data⟩ (by simp) rfl).2
               exact wpOpIn_of rfl rfl (wpR_val (fun c h => by cases h) (r_extract 1 (.tmp 56) _ rfl e9 rfl) ⟨_,rfl,hkp 12 (by decide) (by decide),World.grownBy.refl _ _,(fun h => by simp at h),rfl⟩)
             · obtain rfl := Option.some.inj ho
               exact wpOpIn_of rfl rfl (wpR_val (fun c h => by cases h) (r_nil (.tmp 57) _ rfl (hpre ⟨0, .data⟩ (by simp) rfl).2) ⟨_,rfl,hkp 13 (by decide) (by decide),World.grownBy.refl _ _,(fun h => by simp at h),rfl⟩)
             · obtain rfl := Option.some.inj ho
               exact wpOpIn_of rfl rfl (wpR_val (fun c h => by cases h) (r_fld (.tmp 69) _ rfl (hpre ⟨13, .data⟩ (by simp) rfl).2 (fld65_0 xb _)) ⟨_,rfl,hkp 14 (by decide) (by decide),World.grownBy.refl _ _,(fun h => by simp at h),rfl⟩)
             · obtain rfl := Option.some.inj ho
               obtain ⟨A9,c9,e9,k9⟩ := (hpre ⟨11, .data⟩ (by simp) rfl).2
               obtain ⟨y,hy⟩ := hbx6
               have hg6 : w6.grownBy (w6.setCells xb 0 [.int .i64 (s.n : Int), .slice A9 l'.length c9]) (some xb) := grown_setCells xb _ 0 w6
               exact wpOpIn_of rfl rfl (wpR_skip (fun c h => by cases h) (r_storeP (.tmp 70) (.tmp 67) xb (s.n : Int) A9 l'.length c9 rfl (hpre ⟨14, .data⟩ (by simp) rfl).2 e9 (there5 hy)) ⟨undef,rfl,⟨grown_trans hS1 hg6,fun h => by simp at h,by
                 rw [if_pos (by simp)]
                 exact ⟨A9,c9,heap_storeP hy,k9.keep (AgX.grown hg6 fun r hr => by cases hr; exact hXx)⟩⟩,hg6,(fun _ => rfl),rfl⟩)
             · obtain rfl := Option.some.inj ho
               exact wpOpIn_of rfl rfl (wpR_val (fun c h => by cases h) (r_nil (.tmp 58) _ rfl (hpre ⟨1, .data⟩ (by simp) rfl).2) ⟨_,rfl,hkp 16 (by decide) (by decide),World.grownBy.refl _ _,(fun h => by simp at h),rfl⟩)
             · obtain rfl := Option.some.inj ho
               exact wpOpIn_of rfl rfl (wpR_val (fun c h => by cases h) (r_fld (.tmp 71) _ rfl (hpre ⟨16, .data⟩ (by simp) rfl).2 (fld65_3 xb _)) ⟨_,rfl,hkp 17 (by decide) (by decide),World.grownBy.refl _ _,(fun h => by simp at h),rfl⟩)
             · obtain rfl := Option.some.inj ho
               obtain ⟨y,hy⟩ := hbx6
               have hg6 : w6.grownBy (w6.setCell ⟨xb,4,none⟩ (.int .i64 0)) (some xb) := grown_setCell w6 xb 4 _
               have hf6 : w6.frozen? ⟨xb,4,none⟩ = false := by simp [World.frozen?,hy]
               exact wpOpIn_of rfl rfl (wpR_skip (fun c h => by cases h) (r_store1 27 (.tmp 72) (.tmp 68) ⟨xb,4,none⟩ (.int .i64 0) (.int .i64 0) rfl (hpre ⟨17, .data⟩ (by simp) rfl).2 (hpre ⟨12, .data⟩ (by simp) rfl).2 rfl (cells5 hy).2.2.2.2 hf6 (st28 _ _ _ (cells5 hy).2.2.2.2 hf6)) ⟨undef,rfl,⟨grown_trans hS1 hg6,fun _ h => by simp at h,by
                 split
                 · rename_i h15
                   have h15' : ls 15 = true := by simpa using h15
                   rw [if_pos h15'] at hS3
                   obtain ⟨A9,a9,h1,h2⟩ := hS3
                   exact ⟨A9,a9,heap_set5 h1,h2.keep (AgX.grown hg6 fun r hr => by cases hr; exact hXx)⟩
                 · rename_i h15
                   have h15' : ¬ ls 15 = true := by simpa using h15
                   rw [if_neg h15'] at hS3
                   exact heap_set5 hS3⟩,hg6,(fun _ => rfl),rfl⟩)
           · intro ls a W6 hall hS hP hsl
             obtain ⟨hS1, -,hS3⟩ := hS
             rw [if_pos (hall 15 (by decide))] at hS3
             obtain ⟨A9,a9,hbox9,htab9⟩ := hS3
             obtain ⟨vs,hvs,hfr⟩ := hP.frame 75 rfl
             have HS1 := Lib.hid hS1
             have HBOX9 := Lib.hid hbox9
             have HTAB9 := Lib.hid htab9
             have hrb6 : W6.heap[w.heap.size + 1]? = some (.cells #[.bool false] 4 (0,0)) := by
               have h1 := (HB05.out.block _ (Array.getElem?_eq_some_iff.1 HP2.out).1).trans HP2.out
               exact (hS1.block _ (Array.getElem?_eq_some_iff.1 h1).1 (by have := HXB.out.1; simp; omega)).trans h1
             have HRB6 := Lib.hid hrb6
             have hrc : W6.cell? ⟨w.heap.size + 1,0,none⟩ = some (.bool false) := by rw [cell_of_row _ _ _ _ _ _ hrb6]; rfl
             have hrf : W6.frozen? ⟨w.heap.size + 1,0,none⟩ = false := by simp [World.frozen?,hrb6]
             clear hsl hP hall hvs hbox9 htab9 hS1 hrb6
             subst hfr
             simp only [List.range,List.range.loop,List.map_cons,List.map_nil,List.any_cons,List.any_nil,Nat.reduceAdd,Nat.reduceBEq,Nat.reduceLT,Option.some_beq_some,Bool.or_false,if_true,if_false,List.getD_cons_zero,List.getD_cons_succ,Bool.false_or,Bool.or_true,Bool.true_or,Nat.reduceEqDiff]
             gi_wp2_with (rw [Oper.semAt_eq _ _ _ (fun c h => by cases h)]; go_simp)
             obtain ⟨W7,hW7⟩ : ∃ W7,W7 = W6.setCell ⟨w.heap.size + 1,0,none⟩ (.bool true) := ⟨_,rfl⟩
             have hg7 : W6.grownBy W7 (some (w.heap.size + 1)) := by rw [hW7]; exact grown_setCell W6 _ 0 _
             have hres : W7.heap[w.heap.size + 1]? = some (.cells #[.bool true] 4 (0,0)) := by rw [hW7]; exact heap_set5 HRB6.out
             have hoth : ∀ q,q < W.heap.size -> q ≠ xb -> q ≠ w.heap.size + 1 -> W7.heap[q]? = W.heap[q]? := fun q h1 h2 h3 => by
               have h4 : q < W5.heap.size := Nat.lt_of_lt_of_le h1 HBW5.out.size
               have h5 : q < W6.heap.size := Nat.lt_of_lt_of_le h4 HS1.out.size
               exact (hg7.block q h5 (by simp; omega)).trans ((HS1.out.block q h4 (by simp; omega)).trans (HBW5.out.block q h1))
             have hsz : W.heap.size <= W7.heap.size := Nat.le_trans HBW5.out.size (Nat.le_trans HS1.out.size hg7.size)
             have hbwW : Below w.heap.size w W := HN0.out.trans (HBW2.out.mono HN0.out.size)
             have hx0 := HXB.out
             have h30 := HB03.out.size
             have h3W := HB3W.out.size
             have hold : ∀ q,q < w.heap.size -> q ≠ xb -> W7.heap[q]? = w.heap[q]? := fun q h1 h2 => (hoth q (Nat.lt_of_lt_of_le h1 hbwW.size) h2 (by omega)).trans (hbwW.block q h1)
             have hbxs := HS.out.lo
             have hbs := HBS.out
             rw [<- hW7]
             refine ⟨⟨hsz,fun q o hq ho hn => ?_⟩,Lib.hid ⟨⟨l',A9,a9,by rw [HLD.out]; exact HSH.out,⟨?_,HS.out.lo, ?_, ?_, ?_⟩⟩, ?_, ?_, ?_, ?_⟩⟩
             · exact (hoth q (Array.getElem?_eq_some_iff.1 ho).1 (by omega) (by omega)).trans ho
             · exact (hg7.block xb (Array.getElem?_eq_some_iff.1 HBOX9.out).1 (by simp; omega)).trans HBOX9.out
             · exact (HTAB9.out.keep (AgX.grown hg7 fun r hr => by cases hr; rw [hXd]; exact .inr rfl)).mono fun q hq => by rw [hXd]; exact .inl hq
             · refine HS.out.into.keep ⟨Nat.le_trans hbwW.size hsz,fun q o ho hc hx => ?_⟩
               exact (hold q (Array.getElem?_eq_some_iff.1 ho).1 fun e => hx (.inl e)).trans ho
             · refine owns_keep HS.out.back fun r hr => ?_
               obtain ⟨-,D,hD⟩ := owns_block HS.out.back r hr
               refine hold r (Array.getElem?_eq_some_iff.1 hD).1 fun e => ?_
               subst e
               rw [HS.out.box] at hD
               injection hD with h5
               injection h5 with _ h6 _
               exact absurd h6 (by decide)
             · exact ⟨hg7.os.trans (HS1.out.os.trans (HBW5.out.os.trans hbwW.os)),hg7.tape.trans (HS1.out.tape.trans (HBW5.out.tape.trans hbwW.tape)),hg7.output.trans (HS1.out.output.trans (HBW5.out.output.trans hbwW.output)),Nat.le_trans hbwW.size hsz,fun q hq hn => hold q hq fun e => hn (by rw [e])⟩
             · exact Nat.le_trans h3W hsz
             · exact hres
             · intro D o hD ho hn
               have hD3 := (Array.getElem?_eq_some_iff.1 ho).1
               exact (hoth D (by omega) (by omega) (by omega)).trans ((HB3W.out.block D hD3).trans ho)
       case done =>
         rintro D W hD hI hDD
         have HI := Lib.hid hI.out
         have HDD := Lib.hid hDD
         have hnone : sh2 s.rels i k = none := sh2_none fun m hm => by
           rw [<- HRI.out] at hm ⊢
           rw [<- HSK.out]
           exact HI.out.2 m (by rwa [turns_len HINV.out] at hm)
         have HNN := Lib.hid hnone
         clear hI hDD hnone
         gi_wp2_with fail
         refine ⟨Lib.hid ⟨D :: ds,k + 1,⟨rfl,rfl,rfl,rfl,rfl,rfl,rfl,rfl, ?_,HB03.out.trans (HI.out.1.mono HB03.out.size),HDN.out,hile⟩,rfl,rfl,rfl,rfl,congrArg (Value.int .i64) (by omega : (k : Int) + 1 = ((k + 1 : Nat) : Int)),fun m hm hne => ?_,by omega⟩,by simp [intOf]; omega⟩
         · refine Marks.cons (HMK.out.below (HB3.out.trans (HI.out.1.mono HB3.out.size))) (Nat.le_trans HB03.out.size hD) (fun hm => ?_) HDD.out
           have h1 := (Array.getElem?_eq_some_iff.1 (HMK.out.2 D hm).2).1
           have := HZ3.out
           omega
         · rcases Nat.lt_succ_iff_lt_or_eq.1 hm with h | rfl
           · exact HRW.out m h hne
           · exact HNN.out
       case stop =>
         rintro D j W hD hX hDD
         have HX := Lib.hid hX.out
         have HDD := Lib.hid hDD
         clear hX hDD
         gi_wp2_with fail
         refine marks_leave (B := w0.heap.size) (D :: ds) _ (Marks.cons (HMK.out.keep fun E o hE ho hn => HX.out.keep E o hE ((HB3.out.block _ (Array.getElem?_eq_some_iff.1 ho).1).trans ho) hn) (Nat.le_trans HB03.out.size hD) (fun hm => ?_) HDD.out) fun W' h1 h2 => ⟨_,results_c4 rfl _ _ (w.heap.size + 1) true rfl (h2.2 _ _ HX.out.res rfl), ?_⟩
         · have h1 := (Array.getElem?_eq_some_iff.1 (HMK.out.2 D hm).2).1
           have := HZ3.out
           omega
         · obtain ⟨l,A9,a9,e9,hs9⟩ := HX.out.st
           unfold Sh28
           rw [e9]
           exact ⟨rfl,⟨A9,a9,hs9.keepC h2⟩,⟨h1.os.trans HX.out.grown.os,h1.tape.trans HX.out.grown.tape,h1.output.trans HX.out.grown.output,Nat.le_trans HX.out.grown.size h1.size,fun k hk hx => (h1.block k (Nat.lt_of_lt_of_le hk HN0.out.size)).trans (HX.out.grown.block k hk fun e => hx (.inl (Option.some.inj e)))⟩⟩
   · obtain rfl : s.rels.length = k := by omega
     gi_wp2_with fail
     refine ⟨Lib.hid ⟨ds,i + 1,⟨rfl,rfl,rfl,rfl,rfl,rfl,congrArg (Value.int .i64) (by omega : (i : Int) + 1 = ((i + 1 : Nat) : Int)),rfl,HMK.out,HBW.out,fun a k ha hk hne => ?_,by omega⟩⟩,by simp [intOf]; omega⟩
     rcases Nat.lt_succ_iff_lt_or_eq.1 ha with h | rfl
     · exact HDN.out a k h hk hne
     · exact HRW.out k hk hne
 · obtain rfl : s.rels.length = i := by omega
   have HNO : Hid (shortF s.rels = none) := Lib.hid (shortF_none fun i k hi hk hne => HDN.out i k hi hk hne)
   have hrb : wo.heap[w.heap.size + 1]? = some (.cells #[.bool false] 4 (0,0)) := (HBW.out.block _ (Array.getElem?_eq_some_iff.1 HP2.out).1).trans HP2.out
   have HRB := Lib.hid hrb
   have hrc : wo.cell? ⟨w.heap.size + 1,0,none⟩ = some (.bool false) := by rw [cell_of_row _ _ _ _ _ _ hrb]; rfl
   have hrf : wo.frozen? ⟨w.heap.size + 1,0,none⟩ = false := by simp [World.frozen?,hrb]
   clear hrb
   gi_wp2_with fail
   have hk9 : Below (w.heap.size + 1) wo (wo.setCell ⟨w.heap.size + 1,0,none⟩ (.bool false)) := ⟨rfl,rfl,rfl,by simp [World.setCell],fun k hk => Below.heap_setCell wo ⟨w.heap.size + 1,0,none⟩ _ k (by show k ≠ w.heap.size + 1; omega)⟩
   refine marks_leave (B := w0.heap.size) ds _ (HMK.out.keep fun D o hD ho hn => (Below.heap_setCell wo ⟨w.heap.size + 1,0,none⟩ _ D (fun e => by
     have e2 : D = w.heap.size + 1 := e
     have := (Array.getElem?_eq_some_iff.1 HP2.out).1
     omega)).trans ho) fun W' h1 h2 => ⟨_,results_c4 rfl _ _ (w.heap.size + 1) false rfl (h2.2 _ _ (heap_set5 HRB.out) rfl), ?_⟩
   unfold Sh28
   rw [HNO.out]
   exact ⟨rfl,(HN0.out.trans ((HBW.out.mono HN0.out.size))).trans ((hk9.mono (Nat.le_succ _)).trans (h1.mono HN0.out.size))⟩
end Go.Proofs
namespace Go.Proofs
open Go.RowKit Go.Shelf Go.Lib Go.Sort Go.Proofs.Ct Go.Proofs.Tz Go.Maps
def RepX (X : Nat -> Prop) (o : Option (List (List Int))) (w : World) (v : Value) : Prop := match o with | none => v = .slice none 0 0 | some m => ∃ A c,v = .slice A m.length c /\ TabX X w v m
theorem RepX.keep {X : Nat -> Prop} {o : Option (List (List Int))} {w w' : World} {v : Value} (h : RepX X o w v) (k : AgX X w w') : RepX X o w' v := by
 cases o with
 | none => exact h
 | some m => obtain ⟨A,c,h1,h2⟩ := h; exact ⟨A,c,h1,h2.keep k⟩
theorem RepX.form {X : Nat -> Prop} {o : Option (List (List Int))} {w : World} {v : Value} (h : RepX X o w v) : ∃ A m c,v = .slice A m c := by
 cases o with
 | none => exact ⟨_,_,_,h⟩
 | some m => obtain ⟨A,c,h1,h2⟩ := h; exact ⟨_,_,_,h1⟩
inductive SlA where
 | eq (v : Value) | repT (o : Option (List (List Int))) | rep (o : Option (List (List Int)))
def SlA.holds (X : Nat -> Prop) : SlA -> Value -> World -> Prop
 | .eq u,v,_ => v = u
 | .repT o,v,w => ∃ u,v = .tuple #[u, .int .i64 (repErr o)] /\ RepX X o w u
 | .rep o,v,w => RepX X o w v
theorem SlA.keep {X : Nat -> Prop} {xb : Nat} {s : SlA} {v : Value} {w w' : World} (hX : X xb) (h : w.grownBy w' (some xb)) : s.holds X v w -> s.holds X v w' := by
 cases s with
 | eq u => exact id
 | repT o => exact fun ⟨u,e,k⟩ => ⟨u,e,k.keep (AgX.grown h fun r hr => by cases hr; exact hX)⟩
 | rep o => exact fun k => RepX.keep k (AgX.grown h fun r hr => by cases hr; exact hX)
theorem ne_type {W : World} {a b : Nat} {x y : Array Value} {s t : TypeId} {f g : Nat × Nat} (ha : W.heap[a]? = some (.cells x s f)) (hb : W.heap[b]? = some (.cells y t g)) (h : s ≠ t) : a ≠ b := fun e => by
 subst e
 rw [ha] at hb
 injection hb with h5
 injection h5 with _ h6 _
 exact h h6
set_option maxRecDepth 100000 in
set_option maxHeartbeats 4000000 in
theorem apply51_any (xb b1 bi : Nat) (W : World) (Al Im : Option Addr) (cl ci : Nat) (l G : List (List Int)) (v0 v1 v2 v3 : Value) (X : Nat -> Prop) (hx : W.heap[b1]? = some (.cells #[.pointer (some ⟨xb,0,none⟩)] 66 (0,0))) (hi : W.heap[bi]? = some (.cells #[.slice Im G.length ci] 22 (0,0)))
   (hb : W.heap[xb]? = some (.cells #[v0,v1,v2,v3, .int .i64 0] 68 (0,0))) (hl : Tab W (.slice Al l.length cl) l) (hG : Tab W (.slice Im G.length ci) G) (hX : X xb) (hXl : ∀ k,X k -> k < W.heap.size)
   (hll : l.length <= 1000) (hwl : ∀ j,j < l.length -> (l.getD j []).length <= 4000) (hok : ∀ j,j < l.length -> ∀ x ∈ l.getD j [],Mild x /\ x ≠ 0 /\ x.natAbs <= G.length) (hm : ∀ j, ∀ y ∈ G.getD j [],Mild y) (hgl : ∀ j,(G.getD j []).length <= 1000) :
   Calls Tryz.prog 84 #[.slice Al l.length cl, .pointer (some ⟨bi,0,none⟩), .pointer (some ⟨b1,0,none⟩)] W fun e w' => ∃ v,e = .returned v /\ (RepX X (sbL G l) w' v /\ W.grownBy w' (some xb) /\ w'.heap[xb]? = some (.cells #[v0,v1,v2,v3, .int .i64 (repErr (sbL G l))] 68 (0,0))) := by
 have hn1 : b1 ≠ xb := ne_type hx hb (by decide)
 have hn2 : bi ≠ xb := ne_type hi hb (by decide)
 have HC1 : Hid (∀ W',W.grownBy W' (some xb) -> W'.cell? ⟨b1,0,none⟩ = some (.pointer (some ⟨xb,0,none⟩)) /\ W'.cell? ⟨bi,0,none⟩ = some (.slice Im G.length ci)) := Lib.hid fun W' hg => by
   have h1 := (hg.block _ (Array.getElem?_eq_some_iff.1 hx).1 (by simp; omega)).trans hx
   have h2 := (hg.block _ (Array.getElem?_eq_some_iff.1 hi).1 (by simp; omega)).trans hi
   exact ⟨by rw [cell_of_row _ _ _ _ _ _ h1]; rfl,by rw [cell_of_row _ _ _ _ _ _ h2]; rfl⟩
 obtain ⟨O,hO⟩ : ∃ O,O = sbL G l := ⟨_,rfl⟩
 rw [<- hO]
 have H24 : Hid (∀ W',Below W.heap.size W W' -> Calls Tryz.prog 31 #[.slice Al l.length cl, .slice Im G.length ci] W' fun e w'' => ∃ v,e = .returned v /\ ((SlA.repT O).holds X v w'' /\ Below W'.heap.size W' w'')) := Lib.hid fun W' hbw => by
   refine (replace24_ok W' _ _ l G (kept_tab.below hl hbw) (kept_tab.below hG hbw) hll hwl hok hm hgl).mono ?_
   rintro e w'' ⟨h3,h4⟩
   rw [<- hO] at h3
   cases O with
   | none => exact ⟨_,h3,⟨_,rfl,rfl⟩,h4⟩
   | some m =>
     obtain ⟨A,c,F9,h5,h6⟩ := h3
     exact ⟨_,h5,⟨_,rfl,A,c,rfl,TabX.new h6 fun k hk => Nat.lt_of_lt_of_le (hXl k hk) hbw.size⟩,h4⟩
 have HB := Lib.hid hb
 clear hl hG hll hwl hok hm hgl hO hx hi hb
 go_enter Tryz.func84,Tryz.ntmps84
 go_wp2_with fail
 refine (wpIn_wide (n := 3)).1 ?_
 refine wpIn_region_all (by kernel_rfl) 11 rfl (fun i => if i < 3 then some (6 + i) else if i = 3 then some 9 else if i = 4 then some 5 else if i < 7 then some (5 + i) else if i = 7 then some 0 else if i < 10 then some (4 + i) else none) (lex_of (by kernel_rfl))
   (fun ls W' => W.grownBy W' (some xb) /\ (ls 10 = false -> Below W.heap.size W W') /\ W'.heap[xb]? = some (.cells #[v0,v1,v2,v3, .int .i64 (if ls 10 = true then repErr O else 0)] 68 (0,0)))
   (fun i v W' => (([.eq (.pointer (some ⟨xb,0,none⟩)), .eq (.slice Al l.length cl), .eq (.slice Im G.length ci), .repT O, .repT O, .rep O, .eq (.int .i64 (repErr O)), .rep O, .eq (.pointer (some ⟨xb,0,none⟩)), .eq (.pointer (some ⟨xb,4,none⟩)), .eq undef] : List SlA).getD i (.eq undef)).holds X v W')
   (fun _ w1 w2 => w1.grownBy w2 (some xb)) (dm_inj (by kernel_rfl)) (fun i j v w1 w2 _ _ _ h => SlA.keep hX h) (dm_lt (n := 15) (by kernel_rfl)) ⟨below_grown (Below.refl W.heap.size W).drew,fun _ => (Below.refl _ _).drew,HB.out⟩ ?_ ?_
 · intro ls q o a w6 hq ho hS hls hcl hP hpre
   obtain ⟨hS1,hS2,hS3⟩ := hS
   have hcases : q = 0 \/ q = 1 \/ q = 2 \/ q = 3 \/ q = 4 \/ q = 5 \/ q = 6 \/ q = 7 \/ q = 8 \/ q = 9 \/ q = 10 := by
     have : q < 11 := hq
     omega
   have hkp : ∀ q,q ≠ 10 -> (W.grownBy w6 (some xb) /\ ((fun j => if q = j then true else ls j) 10 = false -> Below W.heap.size W w6) /\ w6.heap[xb]? = some (.cells #[v0,v1,v2,v3, .int .i64 (if (fun j => if q = j then true else ls j) 10 = true then repErr O else 0)] 68 (0,0))) := fun q h1 => by
     simp only [if_neg h1]
     exact ⟨hS1,hS2,hS3⟩
   rcases hcases with rfl | rfl | rfl | rfl | rfl | rfl | rfl | rfl | rfl | rfl | rfl
   · obtain rfl := Option.some.inj ho
     exact wpOpIn_of rfl rfl (wpW_val (r_load1 66 agg63 (.tmp 2) ⟨b1,0,none⟩ rfl (hP.out 2 (dm_out (by kernel_rfl))) (HC1.out _ hS1).1) ⟨_,rfl,hkp 0 (by decide),World.grownBy.refl _ _,(fun h => by simp at h),rfl⟩)
   · obtain rfl := Option.some.inj ho
     have h3 := not_yet hcl 3 rfl ⟨1, .data⟩ (by simp) rfl hls
     have h4 := not_yet hcl 4 rfl ⟨3, .data⟩ (by simp) rfl h3
     have h5 := not_yet hcl 5 rfl ⟨4, .data⟩ (by simp) rfl h4
     have h7 := not_yet hcl 7 rfl ⟨5, .data⟩ (by simp) rfl h5
     exact wpOpIn_of rfl rfl (wpW_val (r_move (.tmp 0) rfl (hP.out 0 (dm_out1 h7 (by kernel_rfl)))) ⟨_,rfl,hkp 1 (by decide),World.grownBy.refl _ _,(fun h => by simp at h),rfl⟩)
   · obtain rfl := Option.some.inj ho
     exact wpOpIn_of rfl rfl (wpW_val (r_ld25 (.tmp 1) ⟨bi,0,none⟩ rfl (hP.out 1 (dm_out (by kernel_rfl))) (HC1.out _ hS1).2) ⟨_,rfl,hkp 2 (by decide),World.grownBy.refl _ _,(fun h => by simp at h),rfl⟩)
   · obtain rfl := Option.some.inj ho
     have h4 := not_yet hcl 4 rfl ⟨3, .data⟩ (by simp) rfl hls
     have h6 := not_yet hcl 6 rfl ⟨4, .data⟩ (by simp) rfl h4
     have h10 := not_yet hcl 10 rfl ⟨6, .data⟩ (by simp) rfl h6
     have hB6 := hS2 h10
     exact wpOpIn_of rfl rfl (wpW_call (r_call2 (.tmp 7) (.tmp 8) _ _ _ rfl (hpre ⟨1, .data⟩ (by simp) rfl).2 (hpre ⟨2, .data⟩ (by simp) rfl).2 call24) (H24.out w6 hB6) fun v w7 hR => ⟨v,rfl,⟨grown_trans hS1 (below_grown hR.2),fun _ => hB6.trans (hR.2.mono hB6.size),(hR.2.block _ (Array.getElem?_eq_some_iff.1 hS3).1).trans hS3⟩,below_grown hR.2,(fun h => by simp at h),hR.1⟩)
   · obtain rfl := Option.some.inj ho
     exact wpOpIn_of rfl rfl (wpW_val (r_move (.tmp 9) rfl rfl) ⟨_,rfl,hkp 4 (by decide),World.grownBy.refl _ _,(fun h => by simp at h),(hpre ⟨3, .data⟩ (by simp) rfl).2⟩)
   · obtain rfl := Option.some.inj ho
     obtain ⟨u9,e9,k9⟩ := (hpre ⟨4, .data⟩ (by simp) rfl).2
     exact wpOpIn_of rfl rfl (wpW_val (r_extract 0 (.tmp 5) _ rfl e9 rfl) ⟨_,rfl,hkp 5 (by decide),World.grownBy.refl _ _,(fun h => by simp at h),k9⟩)
   · obtain rfl := Option.some.inj ho
     obtain ⟨u9,e9,k9⟩ := (hpre ⟨4, .data⟩ (by simp) rfl).2
     exact wpOpIn_of rfl rfl (wpW_val (r_extract 1 (.tmp 5) _ rfl e9 rfl) ⟨_,rfl,hkp 6 (by decide),World.grownBy.refl _ _,(fun h => by simp at h),rfl⟩)
   · obtain rfl := Option.some.inj ho
     exact wpOpIn_of rfl rfl (wpW_val (r_assign (.tmp 10) rfl rfl) ⟨_,rfl,hkp 7 (by decide),World.grownBy.refl _ _,(fun h => by simp at h),(hpre ⟨5, .data⟩ (by simp) rfl).2⟩)
   · obtain rfl := Option.some.inj ho
     exact wpOpIn_of rfl rfl (wpW_val (r_nil (.tmp 6) _ rfl (hpre ⟨0, .data⟩ (by simp) rfl).2) ⟨_,rfl,hkp 8 (by decide),World.grownBy.refl _ _,(fun h => by simp at h),rfl⟩)
   · obtain rfl := Option.some.inj ho
     exact wpOpIn_of rfl rfl (wpW_val (r_fld (.tmp 12) _ rfl (hpre ⟨8, .data⟩ (by simp) rfl).2 (fld65_3 xb _)) ⟨_,rfl,hkp 9 (by decide),World.grownBy.refl _ _,(fun h => by simp at h),rfl⟩)
   · obtain rfl := Option.some.inj ho
     have hg6 : w6.grownBy (w6.setCell ⟨xb,4,none⟩ (.int .i64 (repErr O))) (some xb) := grown_setCell w6 xb 4 _
     have hf6 : w6.frozen? ⟨xb,4,none⟩ = false := by simp [World.frozen?,hS3]
     exact wpOpIn_of rfl rfl (wpW_skip (r_store1 27 (.tmp 13) (.tmp 11) ⟨xb,4,none⟩ _ (.int .i64 (repErr O)) rfl (hpre ⟨9, .data⟩ (by simp) rfl).2 (hpre ⟨6, .data⟩ (by simp) rfl).2 rfl (cells5 hS3).2.2.2.2 hf6 (st28 _ _ _ (cells5 hS3).2.2.2.2 hf6)) ⟨undef,rfl,⟨grown_trans hS1 hg6,fun h => by simp at h,by
       have := heap_set5 (k := 4) (z := .int .i64 (repErr O)) hS3
       simpa using this⟩,hg6,(fun _ => rfl),rfl⟩)
 · intro ls a W6 hall hS hP hsl
   obtain ⟨hS1, -,hS3⟩ := hS
   rw [if_pos (hall 10 (by decide))] at hS3
   obtain ⟨vs,hvs,hfr⟩ := hP.frame 15 rfl
   have s0 : RepX X O W6 (vs 0) := by rw [hvs 0]; exact hsl 7 (by decide)
   obtain ⟨A7,m7,c7,e0⟩ := s0.form
   rw [e0] at s0
   have HS1 := Lib.hid hS1
   have HS3 := Lib.hid hS3
   have HS0 := Lib.hid s0
   clear hsl hP hall hvs hS1 hS3 s0
   subst hfr
   simp only [List.range,List.range.loop,List.map_cons,List.map_nil,List.any_cons,List.any_nil,Nat.reduceAdd,Nat.reduceBEq,Nat.reduceLT,Option.some_beq_some,Bool.or_false,if_true,if_false,List.getD_cons_zero,List.getD_cons_succ,Bool.false_or,Bool.or_true,Bool.true_or,Nat.reduceEqDiff]
   rw [e0]
   clear e0
   go_wp2_with fail
   go_ret
   exact ⟨_,rfl,HS0.out,HS1.out,HS3.out⟩
end Go.Proofs
