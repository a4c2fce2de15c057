/- tietze.Eliminate: what is handed to Clean is a presentation (plain); slices.Clone at lists of words; WordsOf; The law's helpers: words, equal, numbers; slices.Delete of one number; tietze.shorter; tietze.shorter where it finds a place; tietze.shorter, whole; The images of an elimination as they are laid (plain). -/
import Derived.Test.YtmmbmhjdnlmedaaGreatSiCS12
import Derived.Test.YtmmbmhjdnlmedaaGreatSiCS6
import Derived.Test.YtmmbmhjdnlmedaaGreatSiCS2
import Derived.Test.YtmmbmhjdnlmedaaGreatSiCS7
import Derived.Test.YtmmbmhjdnlmedaaGreatSiCS10
import Derived.Shelf.Slices.Delete
import Derived.Shelf.Lay
import Derived.Ground.Names2Prog
import Derived.Test.YtmmbmhjdnlmedaaGreatSiCS11
namespace Go.Proofs
open Go.RowKit Go.Shelf Go.Lib Go.Sort Go.Proofs.Ct Go.Proofs.Tz Go.Maps
theorem sumTo_lenTo (l : List (List Int)) : ∀ k,k <= l.length -> sumTo l k = lenTo l k
 | 0,_ => by unfold lenTo lenL; simp [sumTo,foldTo]
 | k + 1,hk => by rw [sumTo_succ,sumTo_lenTo l k (by omega),lenTo_succ l (by omega)]
theorem presE_of {g : Nat} {l : List (List Int)} (hg : 1 <= g /\ g <= 16) (hl : l.length <= 100) (hok : ∀ w ∈ l,LOk g w) (hs : lenL l <= 4000) : presE (g : Int) l = 0 := by
 refine presE_none hg hl fun j hj => ?_
 have h1 : ¬ 4000 < sumTo l (j + 1) := by
   rw [sumTo_lenTo l (j + 1) (by omega)]
   have := lenTo_le l (j + 1)
   omega
 refine presBad_ok h1 ?_
 rw [List.any_eq_false]
 intro x hx
 have hm : l.getD j [] ∈ l := by rw [List.getD_eq_getElem?_getD,List.getElem?_eq_getElem hj]; exact List.getElem_mem hj
 have := hok _ hm x hx
 unfold letBad
 simp
 omega
theorem mem_getD {α : Type} {l : List (List α)} {j : Nat} {x : α} (h : x ∈ l.getD j []) : l.getD j [] ∈ l := by
 rcases Nat.lt_or_ge j l.length with hj | hj
 · rw [List.getD_eq_getElem?_getD,List.getElem?_eq_getElem hj]; exact List.getElem_mem hj
 · rw [List.getD_eq_getElem?_getD,List.getElem?_eq_none hj] at h; cases h
structure ElimOk (n : Nat) (rels : List (List Int)) (rel gen k : Nat) : Prop where
 imgs : ∀ w ∈ imgsW n gen (imgW (rels.getD rel []) k),LOk (n - 1) w
 len : (imgW (rels.getD rel []) k).length <= 1000 -> ∀ j,((imgsW n gen (imgW (rels.getD rel []) k)).getD j []).length <= 1000
 mild : ∀ j, ∀ y ∈ (imgsW n gen (imgW (rels.getD rel []) k)).getD j [],Mild y
 rest : ∀ j,j < (rels.eraseIdx rel).length -> ((rels.eraseIdx rel).getD j []).length <= 4000 /\ ∀ x ∈ (rels.eraseIdx rel).getD j [],Mild x /\ x ≠ 0 /\ x.natAbs <= n
 many : (rels.eraseIdx rel).length <= 100
 pres : ∀ l,sbL (imgsW n gen (imgW (rels.getD rel []) k)) (rels.eraseIdx rel) = some l -> lenL l <= 4000 -> presE ((n - 1 : Nat) : Int) l = 0
theorem elim_ok {n : Nat} {rels : List (List Int)} {rel gen k : Nat} (he : presE (n : Int) rels = 0) (hr : rel < rels.length) (hg : 1 <= gen /\ gen <= n) (hn1 : n ≠ 1) (hon : onceW (rels.getD rel []) gen = some k) : ElimOk n rels rel gen k := by
 obtain ⟨gn,hgn,hg1,hg2,hln,hall⟩ := presE_good he
 obtain rfl : n = gn := by omega
 have hI := imgs_ok hg (hall rel hr).1 hon
 have hmem : ∀ z ∈ rels.eraseIdx rel,LOk n z /\ z.length <= 4000 := fun z hz => by
   obtain ⟨i,hi,rfl⟩ := List.getElem_of_mem (List.mem_of_mem_eraseIdx hz)
   have := hall i hi
   rw [List.getD_eq_getElem?_getD,List.getElem?_eq_getElem hi] at this
   exact this
 have hmany : (rels.eraseIdx rel).length <= 100 := by
   have := List.length_eraseIdx_le rels rel
   omega
 refine ⟨hI,fun hv j => ?_,fun j y hy => ?_,fun j hj => ?_,hmany,fun l hl hs => ?_⟩
 · rcases Nat.lt_or_ge j n with hj | hj
   · rw [imgs_get hj]
     split
     · unfold lowW; rw [List.length_map]; exact hv
     · unfold lowW; rw [List.length_map]; simp
   · rw [List.getD_eq_getElem?_getD,List.getElem?_eq_none (by rw [length_imgs]; exact hj)]
     exact Nat.zero_le _
 · exact mild_ok (by omega) (hI _ (mem_getD hy)) y hy
 · have hm : (rels.eraseIdx rel).getD j [] ∈ rels.eraseIdx rel := by rw [List.getD_eq_getElem?_getD,List.getElem?_eq_getElem hj]; exact List.getElem_mem hj
   refine ⟨(hmem _ hm).2,fun x hx => ?_⟩
   have h1 := (hmem _ hm).1 x hx
   exact ⟨mild_ok (by omega) (hmem _ hm).1 x hx,h1.2.2,by omega⟩
 · obtain ⟨rfl, -⟩ := sbL_some hl
   refine presE_of ⟨by omega,by omega⟩ (by rw [List.length_map]; exact hmany) (fun z hz => ?_) hs
   obtain ⟨y, -,rfl⟩ := List.mem_map.1 hz
   exact sbTo_ok hI y _
end Go.Proofs
namespace Go.Proofs
open Go.RowKit Go.Shelf Go.Lib Go.Sort Go.Proofs.Ct Go.Proofs.Tz Go.Maps
theorem eqnilW_none (w : World) (n c : Nat) : (binOp .eql 22 (.slice none n c) (.slice none 0 0)).run Tryz.prog w = .ok (.bool true) w := by kernel_rfl
theorem eqnilW_some (w : World) (a : Addr) (n c : Nat) : (binOp .eql 22 (.slice (some a) n c) (.slice none 0 0)).run Tryz.prog w = .ok (.bool false) w := by kernel_rfl
set_option maxRecDepth 100000 in
theorem clone50_any (w : World) (v : Value) (xs : List (List Int)) (h : Tab w v xs) (hl : xs.length <= 1000000) :
   Calls Tryz.prog 81 #[v] w fun e w' => ∃ A c,e = .returned (.slice A xs.length c) /\ OwnT 36 w.heap.size (fun k => k < w.heap.size) w' (.slice A xs.length c) xs /\ Below w.heap.size w w' := by
 obtain ⟨vals,hS,hvl,hrow⟩ := h
 have hal : Below w.heap.size w (w.alloc (.cells #[] 36)) := (Below.refl _ _).alloc (Nat.le_refl _) _
 have hown : (w.alloc (.cells #[] 36)).ownsRow w.heap.size 36 1 (.slice (some ⟨w.heap.size,0,none⟩) 0 0) 0 [] := ⟨rfl, .inr ⟨w.heap.size,0, #[],rfl,Nat.le_refl _,heap_alloc_new w _,Nat.le_refl _,by simp [maxLen],rfl,rfl⟩⟩
 have h1 : ∀ y ∈ vals,y.oneCell' = true := fun y hy => by
   obtain ⟨i,hi,rfl⟩ := List.getElem_of_mem hy
   obtain ⟨u,hu,hx⟩ := hrow i (by omega)
   rw [List.getElem?_eq_getElem hi] at hu
   obtain rfl := Option.some.inj hu
   obtain ⟨A,c,e, -⟩ := hx.open_
   rw [e]
   rfl
 obtain ⟨A',c',w',hr,ho,hg, -⟩ := run_app (ty := 22) Tryz.underlying22 info25p rfl (by omega) (w.alloc (.cells #[] 36)) w.heap.size _ 0 [] hown v vals (hS.below hal) h1 (by omega) (by omega) hal.size
 have hb : Below w.heap.size w w' := hal.grown hg hal.size (fun r hr => by
   have : w.heap.size = r := Option.some.inj hr
   omega)
 have hres : OwnT 36 w.heap.size (fun k => k < w.heap.size) w' (.slice A' xs.length c') xs := by
   refine ⟨vals, ?_,hvl,fun j hj => ?_⟩
   · rw [hvl,Nat.zero_add] at ho
     exact ho
   · obtain ⟨u,hu,hx⟩ := hrow j hj
     exact ⟨u,hu,(IntsF.of_at hx).keep (Ag.below hb fun k hk => hk)⟩
 rw [hvl,Nat.zero_add] at hr
 have HR := Lib.hid hr
 have HB := Lib.hid hb
 have HO := Lib.hid hres
 obtain ⟨A,n,cap,rfl,hn,hc1,hc2,hcells⟩ := hS
 have hnx : n = xs.length := by omega
 cases A with
 | none =>
   have h0 : n = 0 := by
     rcases Nat.eq_zero_or_pos n with h0 | h0
     · exact h0
     · obtain ⟨b,off,hx, -⟩ := hcells (by omega)
       cases hx
   have hx0 : xs = [] := List.eq_nil_of_length_eq_zero (by omega)
   subst hx0
   clear hr hb ho hg hrow hcells HR HB HO hres hown hal h1
   have hq := eqnilW_none w
   go_enter Tryz.func81,Tryz.ntmps81
   go_wp2_with fail
   go_ret
   exact ⟨none,0,rfl,⟨[],World.ownsRow_nil _ _ _ _,RowsF.nil _ _⟩,Below.refl _ _⟩
 | some a =>
   clear hr hb ho hg hrow hcells hres hown hal h1
   have hq := eqnilW_some w
   go_enter Tryz.func81,Tryz.ntmps81
   go_wp2_with ((with_reducible refine wpList_sel 7 ?_); refine wpList_val rfl (r_app (.tmp 5) (.tmp 6) 22 rfl rfl rfl HR.out) ?_)
   go_ret
   exact ⟨A',c',rfl,HO.out,HB.out⟩
end Go.Proofs
namespace Go.Proofs
open Go.RowKit Go.Shelf Go.Proofs.Ct Go.Maps
theorem under24e : Tryz.prog.underlying 35 = some (.slice (Tryz.prog.elem 35)) := by kernel_rfl
theorem r_slice_lo {o : Oper} {a : Act} {w : World} (x y : Operand) (A : Option Addr) (n c k : Nat) (ho : o.op = .slice 35 x (some y) none none) (hx : a.eval x = .slice A n c) (hy : a.eval y = .int .i64 (k : Int)) (hk : k <= n) : (execOp a.eval o).run Tryz.prog w = .ok (.value (sliced A k n c 1)) w := by
 have hu := under24e
 have hs : (sizeOf (Tryz.prog.elem 35)).run Tryz.prog w = .ok 1 w := by kernel_rfl
 unfold execOp
 simp only [ho,hx,hy,Option.map_none,Option.map_some,Sem.run_bind,run_sliceAt_slice w 35 _ _ _ _ hu,run_slice_l w 35 A n c hu .i64 (k : Int) (by omega) (by omega)]
 simp [hs]
theorem ints_sliced {w : World} {A : Option Addr} {c k h : Nat} {l : List Int} (hI : IntsAt w (.slice A l.length c) l) (hk : k <= h) (hh : h <= l.length) : ∃ A',sliced A k h c 1 = .slice A' (h - k) (c - k) /\ IntsAt w (.slice A' (h - k) (c - k)) ((l.take h).drop k) := by
 obtain ⟨⟨A0,n,cap,e,h1,h2,h3,h4⟩,hf⟩ := hI
 obtain ⟨rfl,rfl,rfl⟩ := Value.slice.inj e
 refine ⟨_,rfl,⟨_,_,_,rfl,by simp [ints]; omega,by omega,by omega,fun hp => ?_⟩,fun y hy => hf y (List.mem_of_mem_take (List.mem_of_mem_drop hy))⟩
 obtain ⟨b,off,rfl,hr⟩ := h4 (by omega)
 refine ⟨b,off + k, ?_,fun j v hj => ?_⟩
 · rw [if_neg (by omega),Nat.mul_one]
   exact congrArg some (Addr.add_mid b off k)
 · have hj' : (ints l)[k + j]? = some v := by
     simp only [ints,List.getElem?_map,List.getElem?_drop,List.getElem?_take] at hj ⊢
     split at hj
     · exact hj
     · simp at hj
   have := hr (k + j) v hj'
   rwa [show off + k + j = off + (k + j) by omega]
end Go.Proofs
namespace Go.Proofs
open Go.RowKit Go.Shelf Go.Lib Go.Proofs.Ct Go.Proofs.Tz Go.Maps
set_option maxRecDepth 100000 in
theorem equal8_any (w : World) (va vb : Value) (A B : List (List Int)) (ha : Tab w va A) (hb : Tab w vb B) : Calls Tryz.prog 14 #[va,vb] w fun e w' => e = .returned (.bool (decide (A = B))) /\ Below w.heap.size w w' := by
 obtain ⟨Aa,ca,rfl⟩ := Tab.form ha
 obtain ⟨Ab,cb,rfl⟩ := Tab.form hb
 have HS : Hid (Calls Tryz.prog 13 #[.agg #[.int .i64 0, .slice Aa A.length ca], .agg #[.int .i64 0, .slice Ab B.length cb]] w fun e w' => e = .returned (.bool (decide (A = B))) /\ Below w.heap.size w w') := Lib.hid ((same26_any w _ _ 0 0 A B ha hb).mono fun e w' ⟨h1,h2⟩ => ⟨h1.trans (ret_bool (by simp)),h2⟩)
 clear ha hb
 generalize decide (A = B) = t at *
 generalize A.length = n at *
 generalize B.length = m at *
 go_enter Tryz.func14,Tryz.ntmps14
 go_wp2_with (go_at_call 13; (refine HS.out.mono ?_); rintro e w' ⟨rfl,hb⟩)
 go_ret
 exact ⟨rfl,hb⟩
set_option maxRecDepth 100000 in
theorem numbers11_any (w : World) (va vb : Value) (a b : List Int) (ha : IntsAt w va a) (hb : IntsAt w vb b) : Calls Tryz.prog 20 #[va,vb] w fun e w' => e = .returned (.bool (decide (a = b))) /\ Below w.heap.size w w' := by
 obtain ⟨Aa,ca,rfl, -⟩ := ha.open_
 obtain ⟨Ab,cb,rfl, -⟩ := hb.open_
 have hb1 : Below w.heap.size w (w.alloc (.cells #[.slice Aa a.length ca] 35)) := (Below.refl _ _).alloc (Nat.le_refl _) _
 have hb2 : Below w.heap.size w ((w.alloc (.cells #[.slice Aa a.length ca] 35)).alloc (.cells #[.slice Ab b.length cb] 35)) := hb1.alloc hb1.size _
 have h1 : Tab ((w.alloc (.cells #[.slice Aa a.length ca] 35)).alloc (.cells #[.slice Ab b.length cb] 35)) (.slice (some ⟨w.heap.size,0,none⟩) 1 1) [a] := by
   refine tab_blk ((Below.heap_alloc (w.alloc _) _ w.heap.size (by simp)).trans (heap_alloc_new w _)) rfl rfl (by simp) fun i hi => ?_
   obtain rfl : i = 0 := by simpa using hi
   exact ha.below hb2
 have h2 : Tab ((w.alloc (.cells #[.slice Aa a.length ca] 35)).alloc (.cells #[.slice Ab b.length cb] 35)) (.slice (some ⟨w.heap.size + 1,0,none⟩) 1 1) [b] := by
   have hn := heap_alloc_new (w.alloc (.cells #[.slice Aa a.length ca] 35)) (.cells #[.slice Ab b.length cb] 35)
   rw [World.size_alloc] at hn
   refine tab_blk hn rfl rfl (by simp) fun i hi => ?_
   obtain rfl : i = 0 := by simpa using hi
   exact hb.below hb2
 have HS := Lib.hid (same18_any _ _ _ _ _ h1 h2)
 have HB := Lib.hid hb2
 have HE : Hid (decide ([a] = [b]) = decide (a = b)) := Lib.hid (by simp)
 rw [HE.out] at HS
 clear ha hb hb1 hb2 h1 h2 HE
 generalize decide (a = b) = t at *
 generalize a.length = n at *
 generalize b.length = m at *
 go_enter Tryz.func20,Tryz.ntmps20
 go_wp2_with (go_at_call 47; (refine HS.out.mono ?_); rintro e w' ⟨rfl,q,rfl⟩)
 go_ret
 exact ⟨rfl,below_drewN HB.out _⟩
end Go.Proofs
namespace Go.Proofs
open Go.RowKit Go.Shelf Go.Lib Go.Sort Go.Proofs.Ct Go.Proofs.Tz Go.Maps
shelf_lay Lays2.n23 Nm2 23 at Tryz as Tryz.deleteI
theorem delete52_any (base : Nat) (w : World) (A : Option Addr) (c i : Nat) (xs : List Int) (h : OwnI base w (.slice A xs.length c) xs) (hi : i < xs.length) : Calls Tryz.prog 85 #[.slice A xs.length c, .int .i64 (i : Int), .int .i64 ((i + 1 : Nat) : Int)] w fun e w' => e = .returned (.slice A (xs.length - 1) c) /\ OwnI base w' (.slice A (xs.length - 1) c) (xs.eraseIdx i) /\ w.grownBy w' (Value.slice A xs.length c).ownBlock := by
 obtain ⟨g,rfl⟩ := own_some h (by omega)
 obtain ⟨cur,hC,hb,h1,hm,hs,ht, -⟩ := own_cur h (by omega)
 have hH : Holds (Value.int .i64) w g 0 xs.toArray := by
   intro j hj
   have hj' : j < xs.length := by simpa using hj
   obtain ⟨h2,h3⟩ := own_cell h hj'
   rw [Nat.zero_add]
   refine ⟨?_,h3⟩
   rw [h2]
   simp [List.getD_eq_getElem?_getD,hj']
 have hcon := Any.slices_Delete_int Tryz.deleteI g 0 c i (i + 1) xs w hH h1 hm (by omega) (by omega)
 have hcon2 : Calls Tryz.prog 85 #[.slice (some ⟨g,0,none⟩) xs.length c, .int .i64 (i : Int), .int .i64 ((i + 1 : Nat) : Int)] w _ := hcon
 refine hcon2.mono ?_
 rintro e w' ⟨rfl,q,rfl⟩
 have hl : (xs.take i ++ xs.drop (i + 1) ++ List.replicate (i + 1 - i) (0 : Int)).toArray.size = xs.length := by simp; omega
 have hgl := (Array.getElem?_eq_some_iff.1 hC).1
 have he : xs.eraseIdx i = xs.take i ++ xs.drop (i + 1) := List.eraseIdx_eq_take_drop_succ ..
 have hel : (xs.eraseIdx i).length = xs.length - 1 := by rw [List.length_eraseIdx,if_pos hi]
 have hnew : (putRow (Value.int .i64) (Sort.ahead w q) g 0 (xs.take i ++ xs.drop (i + 1) ++ List.replicate (i + 1 - i) 0).toArray).heap[g]? = some (.cells (putCells (Value.int .i64) 0 (xs.take i ++ xs.drop (i + 1) ++ List.replicate (i + 1 - i) 0).toArray cur) 3 (0,0)) := by
   simp [putRow,mapBlock,Sort.ahead,Array.getElem?_modify,hC,onCells]
 refine ⟨by rw [show i + 1 - i = 1 by omega],⟨?_, .inr ⟨g,c,_,by rw [hel],hb,hnew,by omega,hm,by simp [putCells,hs], ?_⟩⟩,rfl,rfl,rfl,by simp [putRow,mapBlock,Sort.ahead],fun k hk hne => ?_⟩
 · rw [length_ints,Nat.mul_one]
 · rw [hel,Nat.mul_one]
   apply List.ext_getElem?
   intro j
   by_cases hj : j < xs.length - 1
   · rw [List.getElem?_take,if_pos hj,Array.getElem?_toList,he]
     have hjc : j < cur.size := by omega
     have hjl : j < (xs.take i ++ xs.drop (i + 1)).length := by rw [<- he,hel]; exact hj
     have hj2 : j < (xs.take i ++ xs.drop (i + 1) ++ List.replicate (i + 1 - i) (0 : Int)).length := by rw [List.length_append]; omega
     unfold putCells
     rw [Array.getElem?_mapIdx,Array.getElem?_eq_getElem hjc]
     simp only [Option.map_some,Nat.zero_le,true_and,Nat.zero_add,Nat.sub_zero]
     rw [if_pos (by rw [hl]; omega)]
     unfold ints
     rw [List.getElem?_map,List.getElem?_eq_getElem hjl]
     simp only [Option.map_some]
     congr 1
     rw [getElem!_pos _ j (by rw [hl]; omega)]
     simp only [List.getElem_toArray]
     rw [List.getElem_append_left hjl]
   · rw [List.getElem?_take_eq_none (by omega),List.getElem?_eq_none (by rw [length_ints,hel]; omega)]
 · have : g ≠ k := fun e => hne (by rw [<- e]; rfl)
   simp [putRow,mapBlock,Sort.ahead,Array.getElem?_modify,this]
end Go.Proofs
namespace Go.Proofs
open Go.RowKit Go.Shelf Go.Lib Go.Sort Go.Proofs.Ct Go.Proofs.Tz Go.Maps
inductive SlT where
 | eq (v : Value) | ints (l : List Int) | tab (l : List (List Int))
def SlT.holds : SlT -> Value -> World -> Prop
 | .eq u,v,_ => v = u
 | .ints l,v,w => ∃ A c,v = .slice A l.length c /\ IntsAt w v l
 | .tab l,v,w => Tab w v l
theorem SlT.keep {s : SlT} {v : Value} {w w' : World} (h : Below w.heap.size w w') : s.holds v w -> s.holds v w' := by
 cases s with
 | eq u => exact id
 | ints l => exact fun ⟨A,c,e,k⟩ => ⟨A,c,e,k.below h⟩
 | tab l => exact fun k => kept_tab.below k h
def shortM (s h t : List Int) : Option (List Int) :=
 if h.length <= s.length then
   match (List.range s.length).find? (fun k => headsB s k h) with
   | some k => some (mulW (invW t) ((rot s k).drop h.length))
   | none => none
 else none
def ShortPost (s h t : List Int) (w : World) (e : Ending) (w' : World) : Prop :=
 (match shortM s h t with
 | none => e = .returned (.tuple #[.slice none 0 0, .bool false])
 | some x => ∃ A c,e = .returned (.tuple #[.slice A x.length c, .bool true]) /\ OwnI w.heap.size w' (.slice A x.length c) x) /\ Below w.heap.size w w'
theorem find_none {s h : List Int} (hz : ∀ j,j < s.length -> headsB s j h = false) : (List.range s.length).find? (fun k => headsB s k h) = none := by
 rw [List.find?_eq_none]
 intro k hk
 rw [hz k (List.mem_range.1 hk)]
 simp
theorem find_some {s h : List Int} {k : Nat} (hk : k < s.length) (hh : headsB s k h = true) (hz : ∀ j,j < k -> headsB s j h = false) : (List.range s.length).find? (fun k => headsB s k h) = some k := by
 rw [List.find?_range_eq_some]
 exact ⟨hh,List.mem_range.2 hk,fun j hj => by rw [hz j hj]; rfl⟩
set_option maxRecDepth 100000 in
set_option maxHeartbeats 4000000 in
theorem shorter49_none (w : World) (us uh ut : Value) (s h t : List Int) (hs : IntsAt w us s) (hh : IntsAt w uh h) (ht : IntsAt w ut t) (hls : s.length <= 4000) (hlh : h.length <= 4000) (hno : shortM s h t = none) : Calls Tryz.prog 80 #[us, .agg #[uh,ut]] w (ShortPost s h t w) := by
 obtain ⟨As,cs,rfl, -⟩ := hs.open_
 obtain ⟨Ah,ch,rfl, -⟩ := hh.open_
 obtain ⟨At,ct,rfl, -⟩ := ht.open_
 have hR : ∀ W,Below w.heap.size w W -> ShortPost s h t w (.returned (.tuple #[.slice none 0 0, .bool false])) W := fun W hb => by
   unfold ShortPost
   rw [hno]
   exact ⟨rfl,hb⟩
 have HR := Lib.hid hR
 have hs0 : (0 : Int) <= (s.length : Int) := Int.natCast_nonneg _
 have hh0 : (0 : Int) <= (h.length : Int) := Int.natCast_nonneg _
 have hs1 : (s.length : Int) <= 4000 := by omega
 have hh1 : (h.length : Int) <= 4000 := by omega
 have hnew := heap_alloc_new w (.cells #[.slice Ah h.length ch, .slice At t.length ct] 110)
 have hc := (cell_of2 hnew).1
 have HB : Hid (Below w.heap.size w (w.alloc (.cells #[.slice Ah h.length ch, .slice At t.length ct] 110))) := Lib.hid ((Below.refl _ _).alloc (Nat.le_refl _) _)
 have HH : Hid (∀ k q,k < s.length -> Calls Tryz.prog 118 #[.slice As s.length cs, .int .i64 (k : Int), .slice Ah h.length ch] ((w.alloc (.cells #[.slice Ah h.length ch, .slice At t.length ct] 110)).drewN q) fun e w' => e = .returned (.bool (headsB s k h)) /\ ∃ r,w' = ((w.alloc (.cells #[.slice Ah h.length ch, .slice At t.length ct] 110)).drewN q).drewN r) := Lib.hid fun k q hk => heads71_any _ _ _ s h k ((hs.below HB.out).drewN q) ((hh.below HB.out).drewN q) hk (by omega) (by omega)
 have HZ : Hid (h.length <= s.length -> ∀ j,j < s.length -> headsB s j h = false) := Lib.hid fun hle j hj => by
   unfold shortM at hno
   rw [if_pos hle] at hno
   cases hf : (List.range s.length).find? (fun k => headsB s k h) with
   | none =>
     have := List.find?_eq_none.1 hf j (List.mem_range.2 hj)
     simpa using this
   | some k => rw [hf] at hno; cases hno
 clear hs hh ht hnew hR hno
 by_cases hle : h.length <= s.length
 · have hle' : ¬ (s.length : Int) < (h.length : Int) := by omega
   have HZ2 := Lib.hid (HZ.out hle)
   clear hle HZ
   go_enter Tryz.func80,Tryz.ntmps80
   go_wp2_with fail
   generalize hw1 : w.alloc (.cells #[.slice Ah h.length ch, .slice At t.length ct] 110) = w1 at *
   clear hw1
   go_loopw [6,7,16] (fun _ _ z wr => ∃ k : Nat,k <= s.length /\ z = .int .i64 k /\ ∃ q,wr = w1.drewN q) (fun _ _ z _ => s.length - (intOf z).toNat)
   case atStart => exact ⟨0,Nat.zero_le _,rfl,0,rfl⟩
   case round =>
     obtain ⟨k,hk,rfl,q,rfl⟩ := hrel
     have hk0 : (0 : Int) <= (k : Int) := Int.natCast_nonneg _
     by_cases hlt : k < s.length
     · have hlt' : (k : Int) < (s.length : Int) := by omega
       have hC := HH.out k q hlt
       rw [HZ2.out k hlt] at hC
       have HC := Lib.hid hC
       clear hC
       go_wp2_with (go_at_call 118; (refine HC.out.mono ?_); rintro e w' ⟨rfl,r,rfl⟩)
       go_roundw
       case rel => exact ⟨k + 1,by omega,by go_num,(by first | exact ⟨_,rfl⟩ | exact ex_drewN)⟩
       case measure => simp [intOf]; omega
     · obtain rfl : k = s.length := by omega
       go_wp2_with fail
       go_ret2
       exact HR.out _ (below_drewN HB.out _)
 · have hle' : (s.length : Int) < (h.length : Int) := by omega
   clear hle HZ
   go_enter Tryz.func80,Tryz.ntmps80
   go_wp2_with fail
   go_ret2
   exact HR.out _ HB.out
end Go.Proofs
namespace Go.Proofs
open Go.RowKit Go.Shelf Go.Lib Go.Sort Go.Proofs.Ct Go.Proofs.Tz Go.Maps
inductive SlO where
 | eq (v : Value) | ints (l : List Int) | tab (l : List (List Int)) | own (b : Nat) (l : List Int)
def SlO.holds : SlO -> Value -> World -> Prop
 | .eq u,v,_ => v = u
 | .ints l,v,w => ∃ A c,v = .slice A l.length c /\ IntsAt w v l
 | .tab l,v,w => Tab w v l
 | .own b l,v,w => ∃ A c,v = .slice A l.length c /\ OwnI b w v l
theorem SlO.keep {s : SlO} {v : Value} {w w' : World} (h : Below w.heap.size w w') : s.holds v w -> s.holds v w' := by
 cases s with
 | eq u => exact id
 | ints l => exact fun ⟨A,c,e,k⟩ => ⟨A,c,e,k.below h⟩
 | tab l => exact fun k => kept_tab.below k h
 | own b l => exact fun ⟨A,c,e,k⟩ => ⟨A,c,e,owns_below k h⟩
theorem call39' (args : Array Value) (w : World) : (callFunc 67 args).run Tryz.prog w = .ok (.enter 67 args) w := enters_of Tryz.func67 (by kernel_rfl) rfl args w
theorem fld89_0 (b : Nat) (w : World) : (Instr.fieldAt 110 (.pointer (some ⟨b,0,none⟩)) 0).run Tryz.prog w = .ok (.pointer (some ⟨b,0,none⟩)) w := by kernel_rfl
theorem fld89_1 (b : Nat) (w : World) : (Instr.fieldAt 110 (.pointer (some ⟨b,0,none⟩)) 1).run Tryz.prog w = .ok (.pointer (some ⟨b,1,none⟩)) w := by kernel_rfl
set_option maxRecDepth 100000 in
set_option maxHeartbeats 4000000 in
theorem shorter49_some (w : World) (us uh ut : Value) (s h t : List Int) (k0 : Nat) (hs : IntsAt w us s) (hh : IntsAt w uh h) (ht : IntsAt w ut t) (hls : s.length <= 4000) (hlh : h.length <= 4000) (hlt : t.length <= 4000) (hms : ∀ z ∈ s,Mild z) (hmt : ∀ z ∈ t,Mild z) (hle : h.length <= s.length) (hk0 : k0 < s.length) (hhd : headsB s k0 h = true) (hz : ∀ j,j < k0 -> headsB s j h = false) : Calls Tryz.prog 80 #[us, .agg #[uh,ut]] w (ShortPost s h t w) := by
 obtain ⟨As,cs,rfl,s1,s2, -⟩ := hs.open_
 obtain ⟨Ah,ch,rfl, -⟩ := hh.open_
 obtain ⟨At,ct,rfl, -⟩ := ht.open_
 have HSM : Hid (shortM s h t = some (mulW (invW t) ((rot s k0).drop h.length))) := Lib.hid (by unfold shortM; rw [if_pos hle,find_some hk0 hhd hz])
 have hs0 : (0 : Int) <= (s.length : Int) := Int.natCast_nonneg _
 have hh0 : (0 : Int) <= (h.length : Int) := Int.natCast_nonneg _
 have hs1 : (s.length : Int) <= 4000 := by omega
 have hh1 : (h.length : Int) <= 4000 := by omega
 have hle' : ¬ (s.length : Int) < (h.length : Int) := by omega
 have hnew := heap_alloc_new w (.cells #[.slice Ah h.length ch, .slice At t.length ct] 110)
 have hc := (cell_of2 hnew).1
 have hc2 := (cell_of2 hnew).2
 have HB : Hid (Below w.heap.size w (w.alloc (.cells #[.slice Ah h.length ch, .slice At t.length ct] 110))) := Lib.hid ((Below.refl _ _).alloc (Nat.le_refl _) _)
 have HH : Hid (∀ k q,k < s.length -> Calls Tryz.prog 118 #[.slice As s.length cs, .int .i64 (k : Int), .slice Ah h.length ch] ((w.alloc (.cells #[.slice Ah h.length ch, .slice At t.length ct] 110)).drewN q) fun e w' => e = .returned (.bool (headsB s k h)) /\ ∃ r,w' = ((w.alloc (.cells #[.slice Ah h.length ch, .slice At t.length ct] 110)).drewN q).drewN r) := Lib.hid fun k q hk => heads71_any _ _ _ s h k ((hs.below HB.out).drewN q) ((hh.below HB.out).drewN q) hk (by omega) (by omega)
 obtain ⟨A1,e1,i1⟩ := ints_cut (hs.below HB.out) (k := k0) (h := s.length) (by omega) (Nat.le_refl _)
 obtain ⟨A2,e2,i2⟩ := ints_cut (hs.below HB.out) (k := 0) (h := k0) (by omega) (by omega)
 rw [List.take_length] at i1
 rw [List.drop_zero] at i2
 simp only [Nat.sub_zero] at e2 i2
 have HE1 := Lib.hid e1
 have HE2 := Lib.hid e2
 have HI1 := Lib.hid i1
 have HI2 := Lib.hid i2
 have HT := Lib.hid (ht.below HB.out)
 have HRT : Hid (rot s k0 = s.drop k0 ++ s.take k0) := Lib.hid rfl
 have HRL : Hid ((rot s k0).length = s.length) := Lib.hid (by rw [HRT.out,List.length_append,List.length_drop,List.length_take]; omega)
 have HMR : Hid (∀ z ∈ rot s k0,Mild z) := Lib.hid (mild_rot hms k0)
 have HMT := Lib.hid hmt
 have HMI : Hid (∀ z ∈ invW t,Mild z) := Lib.hid fun z hz => mild_inv' hmt z (Ct.red_mem hz)
 have HLI : Hid ((invW t).length <= 4000) := Lib.hid (by have := red_length (inv t); rw [length_inv] at this; unfold invW; omega)
 have HF : Hid (Fits (rot s k0)) := Lib.hid (Mild.fits HMR.out)
 have H39 : Hid (∀ W v,Tab W v [s.drop k0,s.take k0] -> Calls Tryz.prog 67 #[v] W fun e w'' => ∃ u,e = .returned u /\ ((∃ A c,u = .slice A (rot s k0).length c /\ IntsAt w'' u (rot s k0)) /\ Below W.heap.size W w'')) := Lib.hid fun W v hv => by
   have hsum : sumTo [s.drop k0,s.take k0] 2 = s.length := by
     show 0 + (s.drop k0).length + (s.take k0).length = _
     rw [List.length_drop,List.length_take]; omega
   have h1 := concat100_any W v _ hv (by show sumTo [s.drop k0,s.take k0] 2 <= _; omega)
   refine h1.mono ?_
   rintro e w'' ⟨A,c,rfl,h3,h4⟩
   have hfl : flatTo [s.drop k0,s.take k0] [s.drop k0,s.take k0].length = rot s k0 := by
     show ([] ++ s.drop k0) ++ s.take k0 = _
     rw [List.nil_append]; rfl
   rw [hfl] at h3 ⊢
   exact ⟨_,rfl,⟨A,c,rfl,OwnI.ints h3 HF.out⟩,h4⟩
 have H22 : Hid (∀ W u,IntsAt W u t -> Calls Tryz.prog 29 #[u] W fun e w'' => ∃ v,e = .returned v /\ ((∃ A c,v = .slice A (invW t).length c /\ IntsAt w'' v (invW t)) /\ Below W.heap.size W w'')) := Lib.hid fun W u h1 => (invert72_any W u t h1 hmt (by omega)).mono fun e w'' ⟨A,c,e1,h4,h5⟩ => ⟨_,e1,⟨A,c,rfl,OwnI.ints h4 (Mild.fits HMI.out)⟩,h5⟩
 have H21 : Hid (∀ W u v,Below w.heap.size w W -> IntsAt W u (invW t) -> IntsAt W v ((rot s k0).drop h.length) -> Calls Tryz.prog 28 #[u,v] W fun e w'' => ∃ v,e = .returned v /\ ((∃ A c,v = .slice A (mulW (invW t) ((rot s k0).drop h.length)).length c /\ OwnI w.heap.size w'' v (mulW (invW t) ((rot s k0).drop h.length))) /\ Below W.heap.size W w'')) := Lib.hid fun W u v hb h1 h2 => (mul41_any W u v _ _ h1 h2 HMI.out (fun z hz => HMR.out z (List.mem_of_mem_drop hz)) (by have h1 := HLI.out; have h2 := HRL.out; rw [List.length_drop]; omega)).mono fun e w'' ⟨A,c,e1,h6,h7⟩ => ⟨_,e1,⟨A,c,rfl,owns_base h6 hb.size⟩,h7⟩
 have HHD := Lib.hid hhd
 have HZ := Lib.hid hz
 have hkc : k0 <= cs := by omega
 clear hs hh ht hnew e1 e2 i1 i2 hms hmt hhd hz s1 s2
 go_enter Tryz.func80,Tryz.ntmps80
 go_wp2_with fail
 generalize hw1 : w.alloc (.cells #[.slice Ah h.length ch, .slice At t.length ct] 110) = w1 at *
 clear hw1
 have HC1 := Lib.hid hc
 have HC2 := Lib.hid hc2
 go_loopw [6,7,16] (fun _ _ z wr => ∃ k : Nat,k <= k0 /\ z = .int .i64 k /\ ∃ q,wr = w1.drewN q) (fun _ _ z _ => s.length - (intOf z).toNat)
 case atStart => exact ⟨0,Nat.zero_le _,rfl,0,rfl⟩
 case round =>
   obtain ⟨k,hk,rfl,q,rfl⟩ := hrel
   have hkk : (0 : Int) <= (k : Int) := Int.natCast_nonneg _
   have hks : (k : Int) < (s.length : Int) := by omega
   by_cases hlt : k < k0
   · have hC := HH.out k q (by omega)
     rw [HZ.out k hlt] at hC
     have HC := Lib.hid hC
     clear hC
     go_wp2_with (go_at_call 118; (refine HC.out.mono ?_); rintro e w' ⟨rfl,r,rfl⟩)
     go_roundw
     case rel => exact ⟨k + 1,by omega,by go_num,(by first | exact ⟨_,rfl⟩ | exact ex_drewN)⟩
     case measure => simp [intOf]; omega
   · obtain rfl : k = k0 := by omega
     have hC := HH.out k q hk0
     rw [HHD.out] at hC
     have HC := Lib.hid hC
     clear hC hlt
     go_wp2_with (go_at_call 118; (refine HC.out.mono ?_); rintro e w' ⟨rfl,r,rfl⟩)
     refine (wpIn_wide (n := 3)).1 ?_
     refine wpIn_region_all (by kernel_rfl) 9 rfl (fun i => if i < 8 then some (24 + i) else some 7) (lex_of (by kernel_rfl)) (fun _ W => Below w1.heap.size w1 W)
       (fun i v W => (([.eq (.slice As s.length cs), .eq (.int .i64 (k : Int)), .eq (.slice A1 (s.length - k) (cs - k)), .eq (.slice As s.length cs), .eq (.int .i64 (k : Int)), .eq (.slice A2 k cs), .tab [s.drop k,s.take k], .ints (rot s k), .ints (rot s k)] : List SlO).getD i (.eq undef)).holds v W)
       (fun _ W W' => Below W.heap.size W W') (dm_inj (by kernel_rfl)) (fun i j v W W' _ _ _ h => SlO.keep h) (dm_lt (n := 42) (by kernel_rfl)) (by first | exact below_drewN (below_drewN (Below.refl _ _) _) _ | exact (below_drewN (Below.refl _ _) _).drew) ?_ ?_
     · intro ls q o a w3 hq ho hS hls hcl hP hpre
       have hcases : q = 0 \/ q = 1 \/ q = 2 \/ q = 3 \/ q = 4 \/ q = 5 \/ q = 6 \/ q = 7 \/ q = 8 := by
         have : q < 9 := hq
         omega
       rcases hcases with rfl | rfl | rfl | rfl | rfl | rfl | rfl | rfl | rfl
       · obtain rfl := Option.some.inj ho
         exact wpOpIn_of rfl rfl (wpW_val (r_move (.tmp 0) rfl (hP.out 0 (dm_out (by kernel_rfl)))) ⟨_,rfl,hS,Below.refl _ _,(fun h => by simp at h),rfl⟩)
       · obtain rfl := Option.some.inj ho
         exact wpOpIn_of rfl rfl (wpW_val (r_move (.tmp 6) rfl (hP.out 6 (dm_out (by kernel_rfl)))) ⟨_,rfl,hS,Below.refl _ _,(fun h => by simp at h),rfl⟩)
       · obtain rfl := Option.some.inj ho
         exact wpOpIn_of rfl rfl (wpW_val ((run_sl_lo under24w size24w (.tmp 24) (.tmp 25) As s.length cs k rfl (hpre ⟨0, .data⟩ (by simp) rfl).2 (hpre ⟨1, .data⟩ (by simp) rfl).2 (by omega)).trans (congrArg (fun v => Result.ok (Next.value v) _) HE1.out)) ⟨_,rfl,hS,Below.refl _ _,(fun h => by simp at h),rfl⟩)
       · obtain rfl := Option.some.inj ho
         exact wpOpIn_of rfl rfl (wpW_val (r_move (.tmp 0) rfl (hP.out 0 (dm_out (by kernel_rfl)))) ⟨_,rfl,hS,Below.refl _ _,(fun h => by simp at h),rfl⟩)
       · obtain rfl := Option.some.inj ho
         exact wpOpIn_of rfl rfl (wpW_val (r_move (.tmp 6) rfl (hP.out 6 (dm_out (by kernel_rfl)))) ⟨_,rfl,hS,Below.refl _ _,(fun h => by simp at h),rfl⟩)
       · obtain rfl := Option.some.inj ho
         exact wpOpIn_of rfl rfl (wpW_val ((run_sl_hi under24w size24w (.tmp 27) (.tmp 28) As s.length cs k rfl (hpre ⟨3, .data⟩ (by simp) rfl).2 (hpre ⟨4, .data⟩ (by simp) rfl).2 hkc).trans (congrArg (fun v => Result.ok (Next.value v) _) HE2.out)) ⟨_,rfl,hS,Below.refl _ _,(fun h => by simp at h),rfl⟩)
       · obtain rfl := Option.some.inj ho
         have hal : Below w3.heap.size w3 (w3.alloc (.cells #[.slice A1 (s.length - k) (cs - k), .slice A2 k cs] 36)) := (Below.refl _ _).alloc (Nat.le_refl _) _
         exact wpOpIn_of rfl rfl (wpW_val (r_bs25 (.tmp 26) (.tmp 29) A1 A2 _ _ _ _ rfl (hpre ⟨2, .data⟩ (by simp) rfl).2 (hpre ⟨5, .data⟩ (by simp) rfl).2) ⟨_,rfl,hS.trans (hal.mono hS.size),hal,(fun h => by simp at h),tab_blk (us := [.slice A1 (s.length - k) (cs - k), .slice A2 k cs]) (xs := [s.drop k,s.take k]) (heap_alloc_new w3 _) rfl rfl (by simp) (fun i hi => by
           have hi2 : i = 0 \/ i = 1 := by simp at hi; omega
           rcases hi2 with rfl | rfl
           · exact (HI1.out.below hS).below hal
           · exact (HI2.out.below hS).below hal)⟩)
       · obtain rfl := Option.some.inj ho
         exact wpOpIn_of rfl rfl (wpW_call (r_call1 (.tmp 30) _ _ rfl rfl call39') (H39.out w3 _ (hpre ⟨6, .data⟩ (by simp) rfl).2) fun v w4 hR => ⟨v,rfl,hS.trans (hR.2.mono hS.size),hR.2,(fun h => by simp at h),hR.1⟩)
       · obtain rfl := Option.some.inj ho
         exact wpOpIn_of rfl rfl (wpW_val (r_assign (.tmp 31) rfl rfl) ⟨_,rfl,hS,Below.refl _ _,(fun h => by simp at h),(hpre ⟨7, .data⟩ (by simp) rfl).2⟩)
     · intro ls a w3 hall hS hP hsl
       obtain ⟨A5,c5,e5,g5⟩ := hsl 8 (by decide)
       rw [e5] at g5
       obtain ⟨vs,hvs,hfr⟩ := hP.frame 42 rfl
       have e6 : vs 7 = .slice A5 (rot s k).length c5 := (hvs 7).trans e5
       obtain ⟨A6,e7,i7⟩ := ints_cut g5 (k := h.length) (h := (rot s k).length) (by rw [HRL.out]; exact hle) (Nat.le_refl _)
       rw [List.take_length] at i7
       have HE7 := Lib.hid e7
       have HI7 := Lib.hid i7
       have HS := Lib.hid hS
       have hhl : h.length <= (rot s k).length := by rw [HRL.out]; exact hle
       have HCA : Hid (∀ W,Below w1.heap.size w1 W -> W.cell? ⟨w.heap.size,0,none⟩ = some (.slice Ah h.length ch) /\ W.cell? ⟨w.heap.size,1,none⟩ = some (.slice At t.length ct)) := Lib.hid fun W hb => ⟨(hb.cell (p := ⟨w.heap.size,0,none⟩) (World.block_lt_of_cell? _ _ HC1.out)).trans HC1.out,(hb.cell (p := ⟨w.heap.size,1,none⟩) (World.block_lt_of_cell? _ _ HC2.out)).trans HC2.out⟩
       clear hsl hP hall hvs g5 hS e5 e7 i7 hc hc2
       subst hfr
       simp only [List.range,List.range.loop,List.map_cons,List.map_nil,List.any_cons,List.any_nil,Nat.reduceAdd,Nat.reduceBEq,Nat.reduceLT,Option.some_beq_some,Bool.or_false,if_true,if_false,List.getD_cons_zero,List.getD_cons_succ,Bool.or_true,Bool.false_eq_true]
       rw [e6]
       go_wp2_with fail
       refine (wpIn_wide (n := 3)).1 ?_
       refine wpIn_region_all (by kernel_rfl) 11 rfl (fun i => if i < 9 then some (32 + i) else if i = 9 then some 4 else some 5) (lex_of (by kernel_rfl)) (fun _ W => Below w3.heap.size w3 W)
         (fun i v W => (([.eq (.pointer (some ⟨w.heap.size,1,none⟩)), .eq (.slice At t.length ct), .ints (invW t), .eq (.slice A5 (rot s k).length c5), .eq (.pointer (some ⟨w.heap.size,0,none⟩)), .eq (.slice Ah h.length ch), .eq (.int .i64 (h.length : Int)), .eq (.slice A6 ((rot s k).length - h.length) (c5 - h.length)), .own w.heap.size (mulW (invW t) ((rot s k).drop h.length)), .own w.heap.size (mulW (invW t) ((rot s k).drop h.length)), .eq (.bool true)] : List SlO).getD i (.eq undef)).holds v W)
         (fun _ W W' => Below W.heap.size W W') (dm_inj (by kernel_rfl)) (fun i j v W W' _ _ _ h => SlO.keep h) (dm_lt (n := 42) (by kernel_rfl)) (Below.refl _ _).drew ?_ ?_
       · intro ls2 q2 o a2 w4 hq ho hS hls hcl hP hpre
         have hS1 : Below w1.heap.size w1 w4 := HS.out.trans (hS.mono HS.out.size)
         have hcases : q2 = 0 \/ q2 = 1 \/ q2 = 2 \/ q2 = 3 \/ q2 = 4 \/ q2 = 5 \/ q2 = 6 \/ q2 = 7 \/ q2 = 8 \/ q2 = 9 \/ q2 = 10 := by
           have : q2 < 11 := hq
           omega
         rcases hcases with rfl | rfl | rfl | rfl | rfl | rfl | rfl | rfl | rfl | rfl | rfl
         · obtain rfl := Option.some.inj ho
           exact wpOpIn_of rfl rfl (wpW_val (r_fld (.tmp 3) _ rfl (hP.out 3 (dm_out (by kernel_rfl))) (fld89_1 w.heap.size _)) ⟨_,rfl,hS,Below.refl _ _,(fun h => by simp at h),rfl⟩)
         · obtain rfl := Option.some.inj ho
           exact wpOpIn_of rfl rfl (wpW_val (r_ld24 (.tmp 32) ⟨w.heap.size,1,none⟩ rfl (hpre ⟨0, .data⟩ (by simp) rfl).2 (HCA.out _ hS1).2) ⟨_,rfl,hS,Below.refl _ _,(fun h => by simp at h),rfl⟩)
         · obtain rfl := Option.some.inj ho
           exact wpOpIn_of rfl rfl (wpW_call (r_call1 (.tmp 33) _ _ rfl (hpre ⟨1, .data⟩ (by simp) rfl).2 call22) (H22.out w4 _ (HT.out.below hS1)) fun v w5 hR => ⟨v,rfl,hS.trans (hR.2.mono hS.size),hR.2,(fun h => by simp at h),hR.1⟩)
         · obtain rfl := Option.some.inj ho
           exact wpOpIn_of rfl rfl (wpW_val (r_move (.tmp 7) rfl (hP.out 7 (dm_out (by kernel_rfl)))) ⟨_,rfl,hS,Below.refl _ _,(fun h => by simp at h),rfl⟩)
         · obtain rfl := Option.some.inj ho
           exact wpOpIn_of rfl rfl (wpW_val (r_fld (.tmp 3) _ rfl (hP.out 3 (dm_out (by kernel_rfl))) (fld89_0 w.heap.size _)) ⟨_,rfl,hS,Below.refl _ _,(fun h => by simp at h),rfl⟩)
         · obtain rfl := Option.some.inj ho
           exact wpOpIn_of rfl rfl (wpW_val (r_ld24 (.tmp 36) ⟨w.heap.size,0,none⟩ rfl (hpre ⟨4, .data⟩ (by simp) rfl).2 (HCA.out _ hS1).1) ⟨_,rfl,hS,Below.refl _ _,(fun h => by simp at h),rfl⟩)
         · obtain rfl := Option.some.inj ho
           exact wpOpIn_of rfl rfl (wpW_val (r_len (.tmp 37) 36 Ah h.length ch Tryz.underlying36 rfl (hpre ⟨5, .data⟩ (by simp) rfl).2) ⟨_,rfl,hS,Below.refl _ _,(fun h => by simp at h),rfl⟩)
         · obtain rfl := Option.some.inj ho
           exact wpOpIn_of rfl rfl (wpW_val ((run_sl_lo under24w size24w (.tmp 35) (.tmp 38) A5 (rot s k).length c5 h.length rfl (hpre ⟨3, .data⟩ (by simp) rfl).2 (hpre ⟨6, .data⟩ (by simp) rfl).2 hhl).trans (congrArg (fun v => Result.ok (Next.value v) _) HE7.out)) ⟨_,rfl,hS,Below.refl _ _,(fun h => by simp at h),rfl⟩)
         · obtain rfl := Option.some.inj ho
           obtain ⟨B1,d1,f1,g1⟩ := (hpre ⟨2, .data⟩ (by simp) rfl).2
           have f2 := (hpre ⟨7, .data⟩ (by simp) rfl).2
           exact wpOpIn_of rfl rfl (wpW_call (r_call2 (.tmp 34) (.tmp 39) _ _ _ rfl rfl f2 call21) (H21.out w4 _ _ (HB.out.trans (hS1.mono HB.out.size)) g1 (HI7.out.below hS)) fun v w5 hR => ⟨v,rfl,hS.trans (hR.2.mono hS.size),hR.2,(fun h => by simp at h),hR.1⟩)
         · obtain rfl := Option.some.inj ho
           exact wpOpIn_of rfl rfl (wpW_val (r_assign (.tmp 40) rfl rfl) ⟨_,rfl,hS,Below.refl _ _,(fun h => by simp at h),(hpre ⟨8, .data⟩ (by simp) rfl).2⟩)
         · obtain rfl := Option.some.inj ho
           exact wpOpIn_of rfl rfl (wpW_val (r_assign (.const (.bool true)) rfl rfl) ⟨_,rfl,hS,Below.refl _ _,(fun h => by simp at h),rfl⟩)
       · intro ls2 a2 w4 hall hS hP hsl
         obtain ⟨A9,c9,e9,g9⟩ := hsl 9 (by decide)
         have e10 := hsl 10 (by decide)
         rw [e9] at g9
         obtain ⟨vs2,hvs2,hfr2⟩ := hP.frame 42 rfl
         have e4 : vs2 4 = .slice A9 (mulW (invW t) ((rot s k).drop h.length)).length c9 := (hvs2 4).trans e9
         have e5 : vs2 5 = .bool true := (hvs2 5).trans e10
         have HG := Lib.hid g9
         have HBF : Hid (Below w.heap.size w w4) := Lib.hid (HB.out.trans ((HS.out.trans (hS.mono HS.out.size)).mono HB.out.size))
         clear hsl hP hall hvs2 g9 hS e9 e10
         subst hfr2
         simp only [List.range,List.range.loop,List.map_cons,List.map_nil,List.any_cons,List.any_nil,Nat.reduceAdd,Nat.reduceBEq,Nat.reduceLT,Option.some_beq_some,Bool.or_false,if_true,if_false,List.getD_cons_zero,List.getD_cons_succ,Bool.false_or,Bool.or_true,Bool.true_or]
         rw [e4,e5]
         go_wp2_with fail
         go_ret2
         unfold ShortPost
         rw [HSM.out]
         exact ⟨⟨A9,c9,rfl,HG.out⟩,HBF.out⟩
end Go.Proofs
namespace Go.Proofs
open Go.RowKit Go.Shelf Go.Lib Go.Sort Go.Proofs.Ct Go.Proofs.Tz Go.Maps
theorem shortM_shortW {s w : List Int} (h : w ≠ []) : shortM s (w.take (w.length / 2 + 1)) (w.drop (w.length / 2 + 1)) = shortW s w := by
 have h0 : w.length ≠ 0 := fun e => h (List.eq_nil_of_length_eq_zero e)
 have hl : (w.take (w.length / 2 + 1)).length = w.length / 2 + 1 := by rw [List.length_take]; omega
 unfold shortM shortW
 rw [hl]
 rfl
theorem shorter49_any (w : World) (us uh ut : Value) (s h t : List Int) (hs : IntsAt w us s) (hh : IntsAt w uh h) (ht : IntsAt w ut t) (hls : s.length <= 4000) (hlh : h.length <= 4000) (hlt : t.length <= 4000) (hms : ∀ z ∈ s,Mild z) (hmt : ∀ z ∈ t,Mild z) : Calls Tryz.prog 80 #[us, .agg #[uh,ut]] w (ShortPost s h t w) := by
 cases hm : shortM s h t with
 | none => exact shorter49_none w us uh ut s h t hs hh ht hls hlh hm
 | some x =>
   unfold shortM at hm
   split at hm
   · rename_i hle
     cases hf : (List.range s.length).find? (fun k => headsB s k h) with
     | none => rw [hf] at hm; cases hm
     | some k =>
       obtain ⟨h1,h2,h3⟩ := List.find?_range_eq_some.1 hf
       exact shorter49_some w us uh ut s h t k hs hh ht hls hlh hlt hms hmt hle (List.mem_range.1 h2) h1 fun j hj => by simpa using h3 j hj
   · cases hm
end Go.Proofs
namespace Go.Proofs
open Go.Proofs.Ct Go.Proofs.Tz
def imTo (n gen k : Nat) : List (List Int) := (List.range k).map (fun (i : Nat) => lowW gen [(i : Int) + 1]) ++ List.replicate (n - k) []
theorem imTo_zero (n gen : Nat) : imTo n gen 0 = List.replicate n [] := by simp [imTo]
theorem imTo_len {n gen k : Nat} (hk : k <= n) : (imTo n gen k).length = n := by
 unfold imTo
 rw [List.length_append,List.length_map,List.length_range,List.length_replicate]
 omega
theorem imTo_succ {n gen k : Nat} (hk : k < n) : (imTo n gen k).set k (lowW gen [(k : Int) + 1]) = imTo n gen (k + 1) := by
 unfold imTo
 obtain ⟨m,hm⟩ : ∃ m,n - k = m + 1 := ⟨n - k - 1,by omega⟩
 rw [hm,show n - (k + 1) = m by omega,List.set_append_right _ _ (by rw [List.length_map,List.length_range]; omega),List.length_map,List.length_range,Nat.sub_self,List.replicate_succ,List.set_cons_zero,List.range_succ,List.map_append,List.append_assoc]
 rfl
theorem imTo_done {n gen : Nat} (hg : 1 <= gen /\ gen <= n) (v : List Int) : (imTo n gen n).set (gen - 1) (lowW gen v) = imgsW n gen v := by
 have h1 : imTo n gen n = (List.range n).map (fun (i : Nat) => lowW gen [(i : Int) + 1]) := by unfold imTo; rw [Nat.sub_self]; simp
 rw [h1]
 apply List.ext_getElem
 · rw [List.length_set,List.length_map,List.length_range,length_imgs]
 · intro i hi1 hi2
   rw [length_imgs] at hi2
   have e : (imgsW n gen v)[i] = if i + 1 = gen then lowW gen v else lowW gen [(i : Int) + 1] := by simp [imgsW]
   rw [e]
   by_cases h : i + 1 = gen
   · subst h
     rw [if_pos rfl]
     simp
   · rw [if_neg h,List.getElem_set_ne (by omega)]
     simp
end Go.Proofs
