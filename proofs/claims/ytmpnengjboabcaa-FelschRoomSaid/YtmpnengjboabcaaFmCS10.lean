/- (*coset.state).table: the walk; coset.Enumerate: its results' cells, and the closure that it defers; coset.Enumerate: what it answers, and how its results are read; The reference's Begin and Given; coset.Enumerate; The reference's Enumerate; The walk of RewriteKnown. -/
import Derived.Test.YtmpnengjboabcaaFmCS9
import Derived.Defers
import Derived.Recover
import Derived.Test.YtmpnengjboabcaaFmCS6
namespace Go.Proofs
open Go.RowKit Go.Shelf Go.Proofs.Ct Go.Maps
theorem xs_made (w : World) (s : St) : XsAt (w.alloc (.cells (Array.replicate s.t.length (.int .i64 0)) 3)) w.heap.size (nmL s 0) := by
 refine ⟨_,heap_alloc_new w _,by simp [length_nmL],fun k hk => ?_⟩
 rw [length_nmL] at hk
 rw [nmL_zero]
 simp [List.getD_eq_getElem?_getD,hk]
theorem fits_tab {g lim : Nat} {s : St} (_hG : Ct.Good g lim s) (hn : s.t.length <= 20000) (x : List Int) (hx : ∀ v ∈ x,v.toNat <= s.t.length) : Fits (x.map fun v => (num s v.toNat : Int)) := fun z hz => by
 obtain ⟨v,hv,rfl⟩ := List.mem_map.1 hz
 have := livTo_le s v.toNat
 have := hx v hv
 show -9223372036854775808 <= ((num s v.toNat : Nat) : Int) /\ ((num s v.toNat : Nat) : Int) <= 9223372036854775807
 unfold num
 omega
theorem row_addr {base : Nat} {w : World} {A : Option Addr} {n c : Nat} {xs : List Int} (h : OwnI base w (.slice A n c) xs) (h0 : 0 < xs.length) : ∃ g,A = some ⟨g,0,none⟩ := by
 obtain ⟨g,c',e, -⟩ := ownI_cell h h0
 injection e with e1 e2 e3
 exact ⟨g,e1⟩
set_option maxRecDepth 100000 in
set_option maxHeartbeats 4000000 in
theorem table86_any (g m base b lim : Nat) (hm : m = 2 * g) (hg : g <= 16) (hg1 : 1 <= g) (w : World) (s : St) (hS : StP base b m lim w s) (hG : Ct.Good g lim s) (hC : Comp g s s.t.length) (hlim : lim <= 20000) :
   Calls Try.prog 110 #[.pointer (some ⟨b,0,none⟩)] w fun e w' => ∃ u,e = .returned u /\ Tab w' u (tabS s) /\ Below w.heap.size w w' := by
 have hn : s.t.length <= 20000 := Nat.le_trans hG.n2 hlim
 have hn1 := hG.n1
 have hn0 : (s.t.length : Int) <= 20000 := by omega
 have hn2 : (0 : Int) <= (s.t.length : Int) := Int.natCast_nonneg _
 obtain ⟨gr,cr,hrows⟩ := hS.rows0 hn1
 have HRO := Lib.hid hrows
 have HS := Lib.hid hS
 have HG := Lib.hid hG
 have HC := Lib.hid hC
 have HM := Lib.hid hm
 have HR1 : Hid ((Instr.makeSlice 24 (.int .i64 (s.t.length : Int)) (.int .i64 (s.t.length : Int))).run Try.prog w = .ok (.slice (some ⟨w.heap.size,0,none⟩) s.t.length s.t.length) (w.alloc (.cells (Array.replicate s.t.length (.int .i64 0)) 3))) := Lib.hid (make24r w _ (by omega))
 have HX1 := Lib.hid (xs_made w s)
 have HB1 : Hid (Below w.heap.size w (w.alloc (.cells (Array.replicate s.t.length (.int .i64 0)) 3))) := Lib.hid ((Below.refl _ _).alloc (Nat.le_refl _) _)
 generalize w.alloc (.cells (Array.replicate s.t.length (.int .i64 0)) 3) = W1 at *
 have hrows1 := (HB1.out.cell (p := ⟨b,2,none⟩) (World.block_lt_of_cell? w _ hrows)).trans hrows
 clear hS hG hC hm
 go_enter Try.func110,Try.ntmps110
 go_wp2_with ((with_reducible refine wpList_sel 16 ?_); refine wpList_val rfl (r_make 24 (.tmp 15) (.tmp 15) rfl rfl rfl HR1.out) ?_)
 go_loopg [4,22] s.t.length (fun n v i wr => ∃ k : Nat,i = .int .i64 (k : Int) /\ n = s.t.length - k /\ k <= s.t.length /\ v = .int .i64 ((num s k : Nat) : Int) /\ Hid (XsAt wr w.heap.size (nmL s k)) /\ Hid (Below w.heap.size w wr))
 case atStart => exact ⟨0,rfl,by omega,Nat.zero_le _,rfl,HX1,HB1⟩
 case round =>
   clear hrows hrows1 HX1 HB1
   obtain ⟨k,rfl,hgk,hk,rfl,HX,HB⟩ := hrel
   have HGK := Lib.hid hgk
   clear hgk
   have hk0 : (0 : Int) <= (k : Int) := Int.natCast_nonneg _
   have hnk : num s k <= k := livTo_le s k
   have hnk0 : (0 : Int) <= ((num s k : Nat) : Int) := Int.natCast_nonneg _
   have hnk1 : ((num s k : Nat) : Int) <= 20000 := by omega
   have hrowsk := (HB.out.cell (p := ⟨b,2,none⟩) (World.block_lt_of_cell? w _ HRO.out)).trans HRO.out
   by_cases hlt : k < s.t.length
   · have hltI : (k : Int) < (s.t.length : Int) := by omega
     have HAL := Lib.hid (alive127_any g base b m lim k _ s (HS.out.below HB.out) hlt)
     by_cases hal : s.rp k = k
     · have HAT : Hid (decide (s.rp k = k) = true) := Lib.hid (by simp [hal])
       have HNL : Hid (nmL s (k + 1) = (nmL s k).set k (num s k)) := Lib.hid (nmL_live hlt hal)
       have HNK : Hid (num s (k + 1) = num s k + 1) := Lib.hid (by
         unfold num
         rw [livTo_succ,if_pos hal]
         simp)
       have hcx := HX.out.cell (k := k) (by rw [length_nmL]; exact hlt)
       have hfx := HX.out.frozen k
       have HX2 := Lib.hid (HX.out.set (k := k) (by rw [length_nmL]; exact hlt) (num s k))
       clear hal
       go_wp2_with (first
         | (go_at_call 173; (with_reducible refine HAL.out.mono ?_); rintro E w2 ⟨rfl,rfl⟩; rw [HAT.out]))
       go_roundg (s.t.length - (k + 1))
       case measure => have := HGK.out; omega
       case rel => exact ⟨k + 1,by go_num,rfl,by omega,by rw [HNK.out]; go_num,Lib.hid (by rw [HNL.out]; exact HX2.out),Lib.hid (HB.out.grown (grown_setCell _ _ _ _) HB.out.size (fun k hk => by cases hk; exact Nat.le_refl _))⟩
     · have HAT : Hid (decide (s.rp k = k) = false) := Lib.hid (by simp [hal])
       have HNL : Hid (nmL s (k + 1) = nmL s k) := Lib.hid (nmL_dead hal)
       have HNK : Hid (num s (k + 1) = num s k) := Lib.hid (by
         unfold num
         rw [livTo_succ,if_neg hal])
       clear hal
       go_wp2_with (first
         | (go_at_call 173; (with_reducible refine HAL.out.mono ?_); rintro E w2 ⟨rfl,rfl⟩; rw [HAT.out]))
       go_roundg (s.t.length - (k + 1))
       case measure => have := HGK.out; omega
       case rel => exact ⟨k + 1,by go_num,rfl,by omega,by rw [HNK.out],Lib.hid (by rw [HNL.out]; exact HX.out),HB⟩
   · obtain rfl : k = s.t.length := by omega
     rename World => W2
     clear hlt
     have HST : Hid (OutSt 24 (fun _ => False) W2 W2 (.slice none 0 0) (tabTo s 0)) := Lib.hid (OutSt.nil 24 (Below.refl _ _))
     have HXN := HX
     have HBN := HB
     go_wp2_with fail
     go_loopg [6,40] s.t.length (fun n v i wr => ∃ k : Nat,i = .int .i64 (k : Int) /\ n = s.t.length - k /\ k <= s.t.length /\ ∃ (F : Nat -> Prop) (A : Option Addr) (c : Nat),v = .slice A (tabTo s k).length c /\ Hid (OutSt 24 F W2 wr (.slice A (tabTo s k).length c) (tabTo s k)))
     case atStart => exact ⟨0,rfl,by omega,Nat.zero_le _,_,none,0,rfl,HST⟩
     case round =>
       clear HST HX HB HGK hnk hnk0 hnk1 hk0 hk hrowsk
       obtain ⟨k,rfl,hgk,hk,F,A,cA,rfl,HO⟩ := hrel
       have HGK := Lib.hid hgk
       clear hgk
       have hk0 : (0 : Int) <= (k : Int) := Int.natCast_nonneg _
       have HBK := Lib.hid (HBN.out.trans (HO.out.below.mono HBN.out.size))
       by_cases hlt : k < s.t.length
       · have hltI : (k : Int) < (s.t.length : Int) := by omega
         have hSP := HS.out.below HBK.out
         have HAL := Lib.hid (alive127_any g base b m lim k _ s hSP hlt)
         obtain ⟨gr',cr',br,kc,a1,a2,a3⟩ := hSP.rowAt HG.out.rest.inv (by omega) hlt
         have a0 := (HBK.out.cell (p := ⟨b,2,none⟩) (World.block_lt_of_cell? w _ HRO.out)).trans HRO.out
         rw [a0] at a1
         injection a1 with a1
         injection a1 with a1 e2 e3
         injection a1 with a1
         injection a1 with a1
         subst a1
         clear e2 e3 a0 hSP
         have HCL := Lib.hid (clone129_any wr _ _ a3 (by rw [HG.out.rest.inv.len k hlt]; omega))
         rw [HG.out.rest.inv.len k hlt] at HCL
         by_cases hal : s.rp k = k
         · have HAT : Hid (decide (s.rp k = k) = true) := Lib.hid (by simp [hal])
           have HTL : Hid (tabTo s (k + 1) = tabTo s k ++ [(s.t.row k).map fun v => (num s v.toNat : Int)]) := Lib.hid (tabTo_live hal)
           have HRW : Hid (∀ c,c < 2 * g -> ∃ y : Nat,s.t.at k c = (y : Int) /\ y < s.t.length /\ s.rp y = y) := Lib.hid fun c hc => by
             have h0 := HC.out k hlt hlt c hc
             rw [hal] at h0
             obtain ⟨y,hy⟩ := Int.eq_ofNat_of_zero_le h0
             obtain ⟨-,h2,h3⟩ := HG.out.rest.live hlt hc (show Ct.Edge s.t k c y from hy)
             exact ⟨y,hy,h3,h2⟩
           have HRL := Lib.hid (HG.out.rest.inv.len k hlt)
           have HRB : Hid (∀ v ∈ s.t.row k,v.toNat <= s.t.length) := Lib.hid fun v hv => by
             obtain ⟨c,hc,rfl⟩ := List.mem_iff_getElem.1 hv
             obtain ⟨y,hy,hy1, -⟩ := HRW.out c (by rw [<- HG.out.rest.inv.len k hlt]; exact hc)
             unfold Tb.at at hy
             rw [List.getD_eq_getElem?_getD,List.getElem?_eq_getElem hc] at hy
             simp at hy
             omega
           have HTK := Lib.hid (length_tabTo s k)
           have HLK := Lib.hid (livTo_le s k)
           clear hal a3
           go_wp2_with (first
             | (go_at_call 173; (with_reducible refine HAL.out.mono ?_); rintro E w2 ⟨rfl,rfl⟩; rw [HAT.out])
             | (go_at_call 175; (with_reducible refine HCL.out.mono ?_); rintro E w2 ⟨A3,c3,rfl,ho3,hb3⟩
                obtain ⟨h3,rfl⟩ : ∃ h3,A3 = some ⟨h3,0,none⟩ := row_addr ho3 (by rw [HRL.out]; omega)
                have HO3 : Hid (OutSt2 24 F W2 w2 (.slice A (tabTo s k).length cA) (.slice (some ⟨h3,0,none⟩) (2 * g) c3) (tabTo s k) (mixTo (fun v => (num s v.toNat : Int)) (s.t.row k) 0)) := Lib.hid (by rw [mix_zero]; exact HO.out.with_row hb3 ho3)
                clear ho3 hb3))
           go_loopg [53] (2 * g) (fun n i wx => ∃ c : Nat,i = .int .i64 (c : Int) /\ n = 2 * g - c /\ c <= 2 * g /\ Hid (OutSt2 24 F W2 wx (.slice A (tabTo s k).length cA) (.slice (some ⟨h3,0,none⟩) (2 * g) c3) (tabTo s k) (mixTo (fun v => (num s v.toNat : Int)) (s.t.row k) c)))
           case atStart => exact ⟨0,rfl,by omega,Nat.zero_le _,HO3⟩
           case round =>
             clear HO3
             obtain ⟨c,rfl,hgc,hc,HO4⟩ := hrel
             have HGC := Lib.hid hgc
             clear hgc
             have hc0 : (0 : Int) <= (c : Int) := Int.natCast_nonneg _
             have hxl : (mixTo (fun v => (num s v.toNat : Int)) (s.t.row k) c).length = 2 * g := by rw [length_mix,HRL.out]
             by_cases hcg : c < 2 * g
             · have hcI : (c : Int) < 2 * (g : Int) := by omega
               obtain ⟨y,hy,hy1,hy2⟩ := HRW.out c hcg
               have hrow := HO4.out.row
               obtain ⟨g',c',e, -, -,hcc,hff⟩ := ownI_cell hrow (by rw [hxl]; omega)
               injection e with e1 e2 e3
               injection e1 with e1
               injection e1 with e1
               subst e1
               have hck := hcc c (by rw [hxl]; exact hcg)
               rw [mix_getD _ _ _ (by rw [HRL.out]; exact hcg),if_neg (Nat.lt_irrefl _)] at hck
               have hyy : (s.t.row k).getD c 0 = (y : Int) := hy
               rw [hyy] at hck
               have hfk := hff c
               have hx2 := (HXN.out.below HO4.out.st.below).cell (k := y) (by rw [length_nmL]; exact hy1)
               rw [nmL_getD s _ hy1,if_pos ⟨hy1,hy2⟩] at hx2
               have HO5 := Lib.hid (HO4.out.set (by decide) (g := h3) (k := c) rfl (by rw [hxl]; exact hcg) (num s y : Int))
               have HMX : Hid (mixTo (fun v => (num s v.toNat : Int)) (s.t.row k) (c + 1) = (mixTo (fun v => (num s v.toNat : Int)) (s.t.row k) c).set c (num s y : Int)) := Lib.hid (by
                 rw [mix_set _ _ (by rw [HRL.out]; exact hcg),hyy,Int.toNat_natCast])
               have hy0 : (0 : Int) <= (y : Int) := Int.natCast_nonneg _
               have hyI : (y : Int) < (s.t.length : Int) := by omega
               clear hcc hff hrow e2 e3 hyy hy hxl
               go_wp2_with fail
               go_roundg (2 * g - (c + 1))
               case measure => have := HGC.out; omega
               case rel => exact ⟨c + 1,by go_num,rfl,by omega,Lib.hid (by rw [HMX.out]; exact HO5.out)⟩
             · obtain rfl : c = 2 * g := by omega
               have hS := HO4.out
               rw [<- HRL.out,mix_all] at hS
               rw [HRL.out] at hS
               obtain ⟨A8,c8,w8,hr8,hS8⟩ := hS.done (by decide) Try.underlying23 info24p (fits_tab HG.out (by omega) _ HRB.out) (by have := HTK.out; have := HLK.out; omega)
               rw [<- HTL.out] at hS8
               have hlen : (tabTo s (k + 1)).length = (tabTo s k).length + 1 := by rw [HTL.out]; simp
               rw [<- hlen] at hr8 hS8
               have HR8 := Lib.hid hr8
               have HS8 := Lib.hid hS8
               clear hr8 hS8 hS hlen hxl
               go_wp2_with ((with_reducible refine wpList_sel 70 ?_); refine wpList_val rfl (r_app (.tmp 67) (.tmp 69) 23 rfl rfl rfl HR8.out) ?_)
               go_roundg (s.t.length - (k + 1))
               case measure => have := HGK.out; omega
               case rel => exact ⟨k + 1,by go_num,rfl,by omega,_,A8,c8,rfl,HS8⟩
         · have HAT : Hid (decide (s.rp k = k) = false) := Lib.hid (by simp [hal])
           have HTL : Hid (tabTo s (k + 1) = tabTo s k) := Lib.hid (tabTo_dead hal)
           clear hal a3 HCL
           go_wp2_with (first
             | (go_at_call 173; (with_reducible refine HAL.out.mono ?_); rintro E w2 ⟨rfl,rfl⟩; rw [HAT.out]))
           go_roundg (s.t.length - (k + 1))
           case measure => have := HGK.out; omega
           case rel =>
             have h1 := HO.out
             have h2 := HTL.out
             rw [<- h2] at h1 ⊢
             exact ⟨k + 1,by go_num,rfl,by omega,F,A,cA,rfl,Lib.hid h1⟩
       · obtain rfl : k = s.t.length := by omega
         clear hlt
         have HT := Lib.hid HO.out.out.tab
         go_wp2_with fail
         go_ret
         exact ⟨_,rfl,HT.out,HBK.out⟩
end Go.Proofs
namespace Go.Proofs
open Go.RowKit Go.Shelf Go.Proofs.Ct Go.Maps
theorem ta_nil (w : World) : (Instr.typeAssert .nilIface 20 119 true).run Try.prog w = .ok (.tuple #[.agg #[], .bool false]) w := by kernel_rfl
theorem ta_full (w : World) : (Instr.typeAssert (.iface 119 (.agg #[])) 20 119 true).run Try.prog w = .ok (.tuple #[.agg #[], .bool true]) w := by kernel_rfl
theorem alloc112 (w : World) : (Instr.alloc 119 true (.tuple #[])).run Try.prog w = .ok (.pointer (some ⟨w.heap.size,0,none⟩)) (w.alloc (.cells #[] 119)) := by kernel_rfl
theorem neq_nil (w : World) : (binOp .neq 20 .nilIface .nilIface).run Try.prog w = .ok (.bool false) w := by kernel_rfl
structure ResC (q : Nat) (w : World) (v : Value) (a b c e : Int) : Prop where
 c0 : w.cell? ⟨q,0,none⟩ = some v
 c1 : w.cell? ⟨q + 1,0,none⟩ = some (.int .i64 a)
 c2 : w.cell? ⟨q + 1,1,none⟩ = some (.int .i64 b)
 c3 : w.cell? ⟨q + 1,2,none⟩ = some (.int .i64 c)
 c4 : w.cell? ⟨q + 1 + 1,0,none⟩ = some (.int .i64 e)
 f0 : w.frozen? ⟨q,0,none⟩ = false
 f1 : w.frozen? ⟨q + 1,0,none⟩ = false
 f2 : w.frozen? ⟨q + 1,1,none⟩ = false
 f3 : w.frozen? ⟨q + 1,2,none⟩ = false
 f4 : w.frozen? ⟨q + 1 + 1,0,none⟩ = false
theorem ResC.lt {q : Nat} {w : World} {v : Value} {a b c e : Int} (h : ResC q w v a b c e) : q + 1 + 1 < w.heap.size := World.block_lt_of_cell? w _ h.c4
theorem ResC.below {q : Nat} {w w' : World} {v : Value} {a b c e : Int} (h : ResC q w v a b c e) {B : Nat} (hq : q + 1 + 1 < B) (hb : Below B w w') : ResC q w' v a b c e :=
 ⟨(hb.cell (p := ⟨q,0,none⟩) (by show q < B; omega)).trans h.c0,(hb.cell (p := ⟨q + 1,0,none⟩) (by show q + 1 < B; omega)).trans h.c1,(hb.cell (p := ⟨q + 1,1,none⟩) (by show q + 1 < B; omega)).trans h.c2,(hb.cell (p := ⟨q + 1,2,none⟩) (by show q + 1 < B; omega)).trans h.c3,(hb.cell (p := ⟨q + 1 + 1,0,none⟩) hq).trans h.c4,
  (hb.frozen (p := ⟨q,0,none⟩) (by show q < B; omega)).trans h.f0,(hb.frozen (p := ⟨q + 1,0,none⟩) (by show q + 1 < B; omega)).trans h.f1,(hb.frozen (p := ⟨q + 1,1,none⟩) (by show q + 1 < B; omega)).trans h.f2,(hb.frozen (p := ⟨q + 1,2,none⟩) (by show q + 1 < B; omega)).trans h.f3,(hb.frozen (p := ⟨q + 1 + 1,0,none⟩) hq).trans h.f4⟩
def setR (q : Nat) (w : World) (v : Value) (a b c e : Int) : World := ((((w.setCell ⟨q,0,none⟩ v).setCell ⟨q + 1,0,none⟩ (.int .i64 a)).setCell ⟨q + 1,1,none⟩ (.int .i64 b)).setCell ⟨q + 1,2,none⟩ (.int .i64 c)).setCell ⟨q + 1 + 1,0,none⟩ (.int .i64 e)
theorem cell_set {w : World} {a p : Addr} {u : Value} (h : w.cell? p = some u) (v : Value) : (w.setCell a v).cell? p = some (if a = p then v else u) := by
 split
 · rename_i e; subst e; exact World.cell?_setCell_same _ _ _ h
 · rename_i e; rw [World.cell?_setCell_other _ _ _ _ e]; exact h
theorem ResC.set {q : Nat} {w : World} {v : Value} {a b c e : Int} (h : ResC q w v a b c e) (v' : Value) (a' b' c' e' : Int) : ResC q (setR q w v' a' b' c' e') v' a' b' c' e' := by
 obtain ⟨c0,c1,c2,c3,c4,f0,f1,f2,f3,f4⟩ := h
 unfold setR
 refine ⟨(cell_set (cell_set (cell_set (cell_set (cell_set c0 _) _) _) _) _).trans ?_,(cell_set (cell_set (cell_set (cell_set (cell_set c1 _) _) _) _) _).trans ?_,(cell_set (cell_set (cell_set (cell_set (cell_set c2 _) _) _) _) _).trans ?_,(cell_set (cell_set (cell_set (cell_set (cell_set c3 _) _) _) _) _).trans ?_,(cell_set (cell_set (cell_set (cell_set (cell_set c4 _) _) _) _) _).trans ?_, ?_, ?_, ?_, ?_, ?_⟩ <;> simp [f0,f1,f2,f3,f4]
theorem setR_below {B q : Nat} {w w' : World} (h : Below B w w') (hq : B <= q) (v : Value) (a b c e : Int) : Below B w (setR q w' v a b c e) :=
 ((((h.setCell (p := ⟨q,0,none⟩) hq v).setCell (p := ⟨q + 1,0,none⟩) (by show B <= q + 1; omega) _).setCell (p := ⟨q + 1,1,none⟩) (by show B <= q + 1; omega) _).setCell (p := ⟨q + 1,2,none⟩) (by show B <= q + 1; omega) _).setCell (p := ⟨q + 1 + 1,0,none⟩) (by show B <= q + 1 + 1; omega) _
set_option maxRecDepth 100000 in
theorem catch84_idle (p q r : Addr) (w : World) :
   CallsD Try.prog 108 #[.pointer (some p), .pointer (some q), .pointer (some r)] .returning w fun e u' w' => e = .returned (.tuple #[]) /\ u' = .returning /\ Below w.heap.size w w' := by
 refine callsD_of_wpS Try.func108 rfl fun c₀ cs hu => ?_
 apply wpS_seq
 apply wpS_region
 simp [wpOpsS,go_sem,recoverD,hu,Try.ntmps108,Exit.thenS]
 refine wpS_of_wp ?_
 show Code.wp Try.prog _ _ ⟨#[.pointer (some p), .pointer (some q), .pointer (some r), .nilIface,undef,undef, .nilIface,undef,undef,undef,undef,undef,undef,undef,undef,undef,undef], []⟩ w
 have h1 := ta_nil
 have h2 := alloc112
 have h3 := neq_nil
 go_wp2_with fail
 have hB : Below w.heap.size w (w.alloc (.cells #[] 119)) := (Below.refl _ _).alloc (Nat.le_refl _) _
 cases c₀
 simp_all [bodyPostS,results,Try.results108]
set_option maxRecDepth 100000 in
theorem catch84_full (q base : Nat) (w : World) (v : Value) (a b c e : Int) (hq : base <= q) (h : ResC q w v a b c e) :
   CallsD Try.prog 108 #[.pointer (some ⟨q,0,none⟩), .pointer (some ⟨q + 1,0,none⟩), .pointer (some ⟨q + 1 + 1,0,none⟩)] (.panicking fullP) w fun e u' w' => e = .returned (.tuple #[]) /\ u' = .panicking [{ v := .iface 119 (.agg #[]),recovered := true }] /\ ResC q w' (.slice none 0 0) 0 0 0 12 /\ Below base w w' := by
 have hlt := h.lt
 have hB : Below w.heap.size w (w.alloc (.cells #[] 119)) := (Below.refl _ _).alloc (Nat.le_refl _) _
 obtain ⟨c0,c1,c2,c3,c4,f0,f1,f2,f3,f4⟩ := h.below hlt hB
 refine callsD_of_wpS Try.func108 rfl fun c₀ cs hu => ?_
 apply wpS_seq
 apply wpS_region
 simp [wpOpsS,go_sem,recoverD,hu,Try.ntmps108,Exit.thenS,fullP]
 refine wpS_of_wp ?_
 show Code.wp Try.prog _ _ ⟨#[.pointer (some ⟨q,0,none⟩), .pointer (some ⟨q + 1,0,none⟩), .pointer (some ⟨q + 1 + 1,0,none⟩), .iface 119 (.agg #[]),undef,undef, .iface 119 (.agg #[]),undef,undef,undef,undef,undef,undef,undef,undef,undef,undef], []⟩ w
 have h1 := ta_full
 have h2 := alloc112
 have h3 := neq_nil
 have HR := Lib.hid ((h.below hlt hB).set (.slice none 0 0) 0 0 0 12)
 have HB := Lib.hid (setR_below (hB.mono (by omega)) hq (.slice none 0 0) 0 0 0 12)
 clear h hB
 go_wp2_with fail
 have hres := HR.out
 have hbel := HB.out
 unfold setR at hres hbel
 cases c₀
 simp_all [bodyPostS,results,Try.results108]
end Go.Proofs
namespace Go.Proofs
open Go.RowKit Go.Shelf Go.Proofs.Ct Go.Maps
def badArgs (g : Nat) (sub : List W) (limit : Int) : Bool := decide (100 < sub.length) || decide (4000 < sumTo sub sub.length) || (sub.any fun w => w.any (letBad g)) || decide (limit < 1) || decide (20000 < limit)
def enumE (g : Int) (rels sub : List W) (limit : Int) : Tb × (Int × Int) × Int :=
 if presE g rels ≠ 0 then ([],(0,0),presE g rels) else
 if badArgs g.toNat sub limit = true then ([],(0,0),2) else
 match runS (2 * g.toNat) limit.toNat rels sub with
 | none => ([],(0,0),12)
 | some s => ((stdE g (tabS s) 0).1,((s.t.length : Int),s.most),0)
def EnumPost (g : Int) (rels sub : List W) (limit : Int) (w : World) (e : Ending) (w' : World) : Prop :=
 (∃ u,e = .returned (.tuple #[u, .agg #[.int .i64 (enumE g rels sub limit).2.1.1, .int .i64 (enumE g rels sub limit).2.1.2, .int .i64 0], .int .i64 (enumE g rels sub limit).2.2]) /\ Tab w' u (enumE g rels sub limit).1) /\ Below w.heap.size w w'
theorem enumE_pres {g : Int} {rels sub : List W} {limit : Int} (h : presE g rels ≠ 0) : enumE g rels sub limit = ([],(0,0),presE g rels) := by unfold enumE; rw [if_pos h]
theorem enumE_bad {g : Nat} {rels sub : List W} {limit : Int} (h : presE g rels = 0) (h2 : badArgs g sub limit = true) : enumE g rels sub limit = ([],(0,0),2) := by unfold enumE; rw [if_neg (by rw [h]; simp),Int.toNat_natCast,if_pos h2]
theorem enumE_full {g lim : Nat} {rels sub : List W} (h : presE g rels = 0) (h2 : badArgs g sub lim = false) (h3 : runS (2 * g) lim rels sub = none) : enumE g rels sub lim = ([],(0,0),12) := by
 unfold enumE; rw [if_neg (by rw [h]; simp),Int.toNat_natCast,if_neg (by rw [h2]; simp),Int.toNat_natCast,h3]
theorem enumE_some {g lim : Nat} {rels sub : List W} {s : St} (h : presE g rels = 0) (h2 : badArgs g sub lim = false) (h3 : runS (2 * g) lim rels sub = some s) : enumE g rels sub lim = ((stdE g (tabS s) 0).1,((s.t.length : Int),s.most),0) := by
 unfold enumE; rw [if_neg (by rw [h]; simp),Int.toNat_natCast,if_neg (by rw [h2]; simp),Int.toNat_natCast,h3]
theorem neg82_any (w : World) (B g : Nat) (u : Value) (ws : List Int) (hg : g <= 16) (hc : w.cell? ⟨B,0,none⟩ = some (.int .i64 (g : Int))) (hu : IntsAt w u ws) :
   Calls Try.prog 106 #[u, .pointer (some ⟨B,0,none⟩)] w fun e w' => e = .returned (.bool (ws.any (letBad g))) /\ Below w.heap.size w w' := by
 have HC := Lib.hid (fine83_any w g u ws hg hu)
 obtain ⟨A,c,rfl, -, -, -⟩ := hu.open_
 clear hu
 generalize ws.any (letBad g) = b at *
 go_enter Try.func106,Try.ntmps106
 go_wp2_with (go_at_call 107; (refine HC.out.mono ?_); rintro e w' ⟨rfl,hb⟩; have HB := Lib.hid hb; clear hb)
 go_ret
 exact ⟨ret_bool (by simp),HB.out⟩
theorem eg82 : ∀ args w,(callFunc 106 args).run Try.prog w = .ok (.enter 106 args) w := enters_of Try.func106 (by kernel_rfl) rfl
theorem res32 {q : Nat} {w : World} {v : Value} {a b c e : Int} (h : ResC q w v a b c e) (tmps : Array Value) (h6 : tmps[6]? = some (.pointer (some ⟨q,0,none⟩))) (h7 : tmps[7]? = some (.pointer (some ⟨q + 1,0,none⟩))) (h8 : tmps[8]? = some (.pointer (some ⟨q + 1 + 1,0,none⟩))) :
   (results Try.f40 tmps).run Try.prog w = .ok (.tuple #[v, .agg #[.int .i64 a, .int .i64 b, .int .i64 c], .int .i64 e]) w := by
 obtain ⟨c0,c1,c2,c3,c4, -, -, -, -, -⟩ := h
 simp [results,Try.results40,go_sem,h6,h7,h8,asAddr,c0,c1,c2,c3,c4]
theorem leave32 {q : Nat} {w : World} {v : Value} {a b c e : Int} (h : ResC q w v a b c e) (tmps : Array Value) (h6 : tmps[6]? = some (.pointer (some ⟨q,0,none⟩))) (h7 : tmps[7]? = some (.pointer (some ⟨q + 1,0,none⟩))) (h8 : tmps[8]? = some (.pointer (some ⟨q + 1 + 1,0,none⟩))) {R : Ending -> World -> Prop}
   (hR : R (.returned (.tuple #[v, .agg #[.int .i64 a, .int .i64 b, .int .i64 c], .int .i64 e])) w) : Leaves Try.prog Try.f40 tmps R [] .returning w := ⟨_,res32 h tmps h6 h7 h8,hR⟩
end Go.Proofs
namespace Go.Proofs
open Go.RowKit Go.Shelf Go.Proofs.Ct Go.Maps
def made124 (w : World) (lim : Nat) : World := w.alloc (.cells #[.slice none 0 0, .slice none 0 0, .slice none 0 0, .int .i64 (lim : Int), .int .i64 0, .int .i64 0, .bool false] 131)
theorem inv_nil (g : Nat) : Inv g nilS := by
 refine ⟨?_, ?_,rfl, ?_, ?_, ?_⟩ <;> intro x hx <;> exact absurd hx (Nat.not_lt_zero _)
def givenE (g : Int) (rels sub : List W) (limit : Int) : Int := if presE g rels ≠ 0 then presE g rels else if badArgs g.toNat sub limit = true then 2 else 0
theorem sumTo_le' {sub : List W} (h : ∀ j,(sub.getD j []).length <= 100000) : ∀ k,sumTo sub k <= k * 100000
 | 0 => Nat.zero_le _
 | k + 1 => by
   have := sumTo_le' h k
   have := h k
   show sumTo sub k + (sub.getD k []).length <= (k + 1) * 100000
   omega
end Go.Proofs
namespace Go.Proofs
open Go.RowKit Go.Shelf Go.Proofs.Ct Go.Maps
theorem resC_made (w : World) (x : Array Value) : ResC (w.heap.size + 1) ((((w.alloc (.cells x 40)).alloc (.cells #[.slice none 0 0] 23)).alloc (.cells #[.int .i64 0, .int .i64 0, .int .i64 0] 49)).alloc (.cells #[.int .i64 0] 28)) (.slice none 0 0) 0 0 0 0 := by
 constructor <;> simp [go_sem]
def made116 (w : World) (g lim : Nat) : World := w.alloc (.cells #[.int .i64 (2 * (g : Int)), .int .i64 (lim : Int), .slice none 0 0, .slice none 0 0, .slice none 0 0, .int .i64 0, .int .i64 0] 123)
theorem StP.made (w : World) (g lim : Nat) : StP w.heap.size w.heap.size (2 * g) lim (made116 w g lim) nilS := by
 refine ⟨Nat.le_refl _, [], .slice none 0 0, .slice none 0 0, .slice none 0 0,fun _ => 0,fun _ => 0,⟨?_⟩,⟨World.ownsRow_nil _ _ _ _,fun i hi => absurd hi (Nat.not_lt_zero _),fun i j hi => absurd hi (Nat.not_lt_zero _),World.ownsRow_nil _ _ _ _,World.ownsRow_nil _ _ _ _,fun i hi => absurd hi (Nat.not_lt_zero _),fun i hi => absurd hi (Nat.not_lt_zero _),(fun r hr => by cases hr),⟨rfl,fun x hx => absurd hx (Nat.not_lt_zero _)⟩⟩⟩
 have := heap_alloc_new w (.cells #[.int .i64 (2 * (g : Int)), .int .i64 (lim : Int), .slice none 0 0, .slice none 0 0, .slice none 0 0, .int .i64 0, .int .i64 0] 123)
 have e : ((2 * g : Nat) : Int) = 2 * (g : Int) := by omega
 rw [e]
 exact this
theorem made116_below (w : World) (g lim : Nat) : Below w.heap.size w (made116 w g lim) := (Below.refl _ _).alloc (Nat.le_refl _) _
theorem made116_size (w : World) (g lim : Nat) : w.heap.size <= (made116 w g lim).heap.size := (made116_below w g lim).size
theorem Words.of {w : World} {v : Value} {l : List W} (h : Tab w v l) {w' : World} (hb : Below w.heap.size w w') : Words w.heap.size w' v l := ⟨w,rfl,h,hb⟩
theorem addr_ne {a b : Addr} (h : a.block ≠ b.block \/ a.off ≠ b.off) : a ≠ b := fun e => by
 subst e
 rcases h with h | h <;> exact h rfl
theorem ResC.set2 {q : Nat} {w : World} {v : Value} {a b c e : Int} (h : ResC q w v a b c e) (v' : Value) (e' : Int) : ResC q ((w.setCell ⟨q,0,none⟩ v').setCell ⟨q + 1 + 1,0,none⟩ (.int .i64 e')) v' a b c e' := by
 obtain ⟨c0,c1,c2,c3,c4,f0,f1,f2,f3,f4⟩ := h
 refine ⟨(cell_set (cell_set c0 _) _).trans ?_,(cell_set (cell_set c1 _) _).trans ?_,(cell_set (cell_set c2 _) _).trans ?_,(cell_set (cell_set c3 _) _).trans ?_,(cell_set (cell_set c4 _) _).trans ?_, ?_, ?_, ?_, ?_, ?_⟩ <;> simp [f0,f1,f2,f3,f4]
theorem TabB.setCell {B : Nat} {w : World} {u : Value} {l : List (List Int)} (h : TabB B w u l) {p : Addr} (hp : p.block < B) (v : Value) : TabB B (w.setCell p v) u l :=
 h.keep (by simp [World.setCell]) fun k h1 _ => Below.heap_setCell w p v k (by omega)
theorem setR_tabB {B q : Nat} {w : World} {u : Value} {l : List (List Int)} (h : TabB B w u l) (h1 : q + 1 < B) (h2 : q + 1 + 1 < B) (v : Value) (a b c e : Int) : TabB B (setR q w v a b c e) u l :=
 ((((h.setCell (p := ⟨q,0,none⟩) (by show q < B; omega) v).setCell (p := ⟨q + 1,0,none⟩) h1 _).setCell (p := ⟨q + 1,1,none⟩) h1 _).setCell (p := ⟨q + 1,2,none⟩) h1 _).setCell (p := ⟨q + 1 + 1,0,none⟩) h2 _
theorem StP.tops {base b m lim : Nat} {w : World} {s : St} (h : StP base b m lim w s) : ∃ A c,w.cell? ⟨b,2,none⟩ = some (.slice A s.t.length c) /\ w.cell? ⟨b,6,none⟩ = some (.int .i64 s.most) := by
 obtain ⟨-,P,vr,vp,vq,bl,cs,hB,hC⟩ := h
 obtain ⟨A,c,rfl⟩ := owns_form hC.out
 exact ⟨A,c,hB.cells.2.2.1,hB.cells.2.2.2.2.2.2⟩
abbrev S16 (q p : Nat) (u r m : Value) (W : World) : Prop := W.cell? ⟨q,0,none⟩ = some u /\ W.cell? ⟨p,2,none⟩ = some r /\ W.cell? ⟨p,6,none⟩ = some m /\ W.cell? ⟨q + 1 + 1,0,none⟩ = some (.int .i64 0)
theorem S16.drew {q p : Nat} {u r m : Value} {W : World} (h : S16 q p u r m W) : S16 q p u r m W.drew := h
theorem S16.st0 {q p : Nat} {u r m : Value} {W : World} (h : S16 q p u r m W) : S16 q p u r m (W.setCell ⟨q,0,none⟩ u) :=
 ⟨(cell_set h.1 _).trans (by simp),(cell_set h.2.1 _).trans (by simp),(cell_set h.2.2.1 _).trans (by simp),(cell_set h.2.2.2 _).trans (by simp)⟩
theorem S16.st1 {q p : Nat} {u r m : Value} {W : World} (h : S16 q p u r m W) (a b : Value) (hne : q + 1 ≠ p) : ∀ c : Value,S16 q p u r m (((W.setCell ⟨q + 1,0,none⟩ a).setCell ⟨q + 1,1,none⟩ b).setCell ⟨q + 1,2,none⟩ c) := fun c =>
 ⟨(cell_set (cell_set (cell_set h.1 _) _) _).trans (by simp),(cell_set (cell_set (cell_set h.2.1 _) _) _).trans (by simp),(cell_set (cell_set (cell_set h.2.2.1 _) _) _).trans (by simp),(cell_set (cell_set (cell_set h.2.2.2 _) _) _).trans (by simp)⟩
theorem S16.st2 {q p : Nat} {u r m : Value} {W : World} (h : S16 q p u r m W) : S16 q p u r m (W.setCell ⟨q + 1 + 1,0,none⟩ (.int .i64 0)) :=
 ⟨(cell_set h.1 _).trans (by simp),(cell_set h.2.1 _).trans (by simp),(cell_set h.2.2.1 _).trans (by simp),(cell_set h.2.2.2 _).trans (by simp)⟩
theorem sumTo_le {sub : List W} (h : ∀ j,(sub.getD j []).length <= 100000) : ∀ k,sumTo sub k <= k * 100000
 | 0 => Nat.zero_le _
 | k + 1 => by
   have := sumTo_le h k
   have := h k
   show sumTo sub k + (sub.getD k []).length <= (k + 1) * 100000
   omega
def EnumPostB (g : Int) (rels sub : List W) (limit : Int) (w : World) (e : Ending) (w' : World) : Prop :=
 (∃ u,e = .returned (.tuple #[u, .agg #[.int .i64 (enumE g rels sub limit).2.1.1, .int .i64 (enumE g rels sub limit).2.1.2, .int .i64 0], .int .i64 (enumE g rels sub limit).2.2]) /\ TabB w.heap.size w' u (enumE g rels sub limit).1) /\ Below w.heap.size w w'
theorem EnumPostB.err {g : Int} {rels sub : List W} {limit : Int} {w w' : World} {x : Int} (h : enumE g rels sub limit = ([],(0,0),x)) (hb : Below w.heap.size w w') : EnumPostB g rels sub limit w (.returned (.tuple #[.slice none 0 0, .agg #[.int .i64 0, .int .i64 0, .int .i64 0], .int .i64 x])) w' := by
 unfold EnumPostB
 rw [h]
 exact ⟨⟨_,rfl,TabB.nil⟩,hb⟩
theorem EnumPostB.plain {g : Int} {rels sub : List W} {limit : Int} {w w' : World} {e : Ending} (h : EnumPostB g rels sub limit w e w') : EnumPost g rels sub limit w e w' := by
 obtain ⟨⟨u,h1,h2⟩,h3⟩ := h
 exact ⟨⟨u,h1,h2.at_⟩,h3⟩
theorem TabB.low {B B' : Nat} {w : World} {u : Value} {l : List (List Int)} (h : TabB B w u l) (hb : B' <= B) : TabB B' w u l := fun w' hk => h w' fun k h1 h2 => hk k (Nat.le_trans hb h1) h2
theorem TabB.belowB {B : Nat} {w w' : World} {u : Value} {l : List (List Int)} (h : TabB B w u l) (hb : Below w.heap.size w w') : TabB B w' u l := h.keep hb.size fun k _ h2 => hb.block k h2
set_option maxRecDepth 100000 in
set_option maxHeartbeats 4000000 in
theorem enum32_B (w : World) (vr vs : Value) (g : Int) (rels sub : List W) (limit : Int) (hR : Tab w vr rels) (hS : Tab w vs sub) (hsm : ∀ j,(sub.getD j []).length <= 100000) (hsl : sub.length <= 1000000) : Calls Try.prog 40 #[.agg #[.int .i64 g,vr],vs, .int .i64 limit] w (EnumPostB g rels sub limit w) := by
 obtain ⟨Ar,cr,rfl⟩ := Tab.form hR
 obtain ⟨As,cs,rfl⟩ := Tab.form hS
 have H78 : Hid (∀ W,Tab W (.slice Ar rels.length cr) rels -> Calls Try.prog 102 #[.agg #[.int .i64 g, .slice Ar rels.length cr]] W fun e w' => (∃ y,e = .returned (.tuple #[.int .i64 (presE g rels), .int .i64 y])) /\ Below W.heap.size W w') := Lib.hid fun W h => pcheck78_any W _ _ rels h
 have hmf : ∀ (fn : Fn) (first cap : Array Value) (w : World),(Instr.makeFunc fn first cap).run Try.prog w = .ok (.func fn first cap) w := fun _ _ _ _ => rfl
 have HPB : Hid (∀ w0 : World,w0 = (((w.alloc (.cells #[.int .i64 g, .slice Ar rels.length cr] 40)).alloc (.cells #[.slice none 0 0] 23)).alloc (.cells #[.int .i64 0, .int .i64 0, .int .i64 0] 49)).alloc (.cells #[.int .i64 0] 28) -> Below w.heap.size w w0 /\ w0.heap.size = w.heap.size + 4 /\ w0.heap[w.heap.size]? = some (.cells #[.int .i64 g, .slice Ar rels.length cr] 40 (0,0)) /\ ResC (w.heap.size + 1) w0 (.slice none 0 0) 0 0 0 0) := Lib.hid fun w0 h => by
   subst h
   refine ⟨((((Below.refl _ _).alloc (Nat.le_refl _) _).alloc (by simp) _).alloc (by simp; omega) _).alloc (by simp; omega) _,by simp, ?_,resC_made w _⟩
   have h0 := heap_alloc_new w (.cells #[.int .i64 g, .slice Ar rels.length cr] 40)
   have hb : Below (w.heap.size + 1) (w.alloc (.cells #[.int .i64 g, .slice Ar rels.length cr] 40)) ((((w.alloc (.cells #[.int .i64 g, .slice Ar rels.length cr] 40)).alloc (.cells #[.slice none 0 0] 23)).alloc (.cells #[.int .i64 0, .int .i64 0, .int .i64 0] 49)).alloc (.cells #[.int .i64 0] 28)) := (((Below.refl _ _).alloc (by simp) _).alloc (by simp) _).alloc (by simp) _
   exact (hb.block _ (by omega)).trans h0
 have HRR := Lib.hid hR
 have HSS := Lib.hid hS
 clear hR hS
 go_enter_defers Try.func40,Try.ntmps40
 go_wp2_with fail
 generalize hw0 : (((w.alloc (.cells #[.int .i64 g, .slice Ar rels.length cr] 40)).alloc (.cells #[.slice none 0 0] 23)).alloc (.cells #[.int .i64 0, .int .i64 0, .int .i64 0] 49)).alloc (.cells #[.int .i64 0] 28) = w0 at *
 obtain ⟨hb0,hsz,hbp,hrc⟩ := HPB.out w0 rfl
 have HB0 := Lib.hid hb0
 have HSZ := Lib.hid hsz
 have HBX : Hid (∀ W,Below w0.heap.size w0 W -> W.cell? ⟨w.heap.size,0,none⟩ = some (.int .i64 g) /\ W.cell? ⟨w.heap.size,1,none⟩ = some (.slice Ar rels.length cr) /\ ResC (w.heap.size + 1) W (.slice none 0 0) 0 0 0 0) := Lib.hid fun W h => by
   obtain ⟨a,b⟩ := cell_of2 ((h.block _ (Array.getElem?_eq_some_iff.1 hbp).1).trans hbp)
   exact ⟨a,b,hrc.below hrc.lt h⟩
 clear hw0 hb0 hsz hbp hrc HPB
 by_cases he : presE g rels = 0
 · have d1 : (presE g rels != 0) = false := by simp [he]
   have HE := Lib.hid he
   clear he
   generalize hxe : presE g rels = x at *
   have HXE := Lib.hid hxe
   clear hxe
   go_wp2_with (first
     | (go_at_call 102; (with_reducible refine (H78.out w0 (kept_tab.below HRR.out HB0.out)).mono ?_); rintro e w1 ⟨⟨y,rfl⟩,hb⟩
        have HB1 := Lib.hid hb
        clear hb))
   go_loopg [11,26] sub.length (fun n l i wx => ∃ k : Nat,i = .int .i64 (k : Int) /\ n = sub.length - k /\ k <= sub.length /\ l = .int .i64 ((sumTo sub k : Nat) : Int) /\ w1 = wx)
   case atStart => exact ⟨0,rfl,by omega,Nat.zero_le _,rfl,rfl⟩
   case round =>
     obtain ⟨k,rfl,hgk,hk,rfl,rfl⟩ := hrel
     have HGK := Lib.hid hgk
     clear hgk
     have hk0 : (0 : Int) <= (k : Int) := Int.natCast_nonneg _
     have hsk := sumTo_le hsm k
     have hsk0 : (0 : Int) <= ((sumTo sub k : Nat) : Int) := Int.natCast_nonneg _
     have hsk1 : ((sumTo sub k : Nat) : Int) <= 100000000000 := by
       have : k * 100000 <= 1000000 * 100000 := Nat.mul_le_mul_right _ (by omega)
       omega
     clear hsk
     by_cases hlt : k < sub.length
     · have hltI : (k : Int) < (sub.length : Int) := by omega
       have hT := kept_tab.below HSS.out (HB0.out.trans (HB1.out.mono HB0.out.size))
       obtain ⟨bs,os,rfl,hcell⟩ := hT.cells (by omega)
       obtain ⟨u,hu,hI⟩ := hcell k hlt
       obtain ⟨Au,cu,rfl,hu1,hu2, -⟩ := hI.open_
       have hlu := hsm k
       have HSU : Hid (sumTo sub (k + 1) = sumTo sub k + (sub.getD k []).length) := Lib.hid rfl
       generalize hgl : (sub.getD k []).length = L at *
       have hl0 : (0 : Int) <= (L : Int) := Int.natCast_nonneg _
       have hl1 : (L : Int) <= 100000 := by omega
       clear hT hcell hI hu1 hu2 hlu hgl
       go_wp2_with fail
       go_roundg (sub.length - (k + 1))
       case measure => have := HGK.out; omega
       case rel => exact ⟨k + 1,by go_num,rfl,by omega,by rw [HSU.out]; go_num,rfl⟩
     · obtain rfl : k = sub.length := by omega
       clear hlt
       obtain ⟨gn,rfl,hg1,hg16,hrl,hrg⟩ := presE_good (HXE.out.trans HE.out)
       have hpz : presE (gn : Int) rels = 0 := HXE.out.trans HE.out
       have HPZ := Lib.hid hpz
       obtain ⟨-, -,hrc⟩ := HBX.out _ HB1.out
       have HRC := Lib.hid hrc
       have HRG := Lib.hid hrg
       have hcg := (HBX.out _ HB1.out).1
       have hcr := (HBX.out _ HB1.out).2.1
       obtain ⟨c0,c1,c2,c3,c4,f0,f1,f2,f3,f4⟩ := hrc
       have HW1 := Lib.hid (HB0.out.trans (HB1.out.mono HB0.out.size))
       clear hrg hpz
       have H81 : Hid (Calls Try.prog 105 #[.slice As sub.length cs, .func (.func 106) #[] #[.pointer (some ⟨w.heap.size,0,none⟩)]] w1 fun e w' => e = .returned (.bool (sub.any fun w => w.any (letBad gn))) /\ Below w1.heap.size w1 w') := Lib.hid (
         has81_any 106 _ (fun w => w.any (letBad gn)) w1 eg82 _ sub (kept_tab.below HSS.out HW1.out) fun W' u k hb hk hI => neg82_any W' w.heap.size gn u _ hg16 ((hb.cell (p := ⟨w.heap.size,0,none⟩) (World.block_lt_of_cell? _ _ hcg)).trans hcg) hI)
       have HBAD : Hid (badArgs gn sub limit = true -> enumE (gn : Int) rels sub limit = ([],(0,0),2)) := Lib.hid fun h => enumE_bad HPZ.out h
       by_cases h1 : (100 : Int) < (sub.length : Int)
       · have HBA : Hid (enumE (gn : Int) rels sub limit = ([],(0,0),2)) := Lib.hid (HBAD.out (by unfold badArgs; simp; omega))
         clear HBAD
         have HRC2 := Lib.hid (HRC.out.set (.slice none 0 0) 0 0 0 2)
         go_wp2_with fail
         refine leave32 (q := w.heap.size + 1) HRC2.out _ rfl rfl rfl ?_
         exact EnumPostB.err HBA.out (setR_below HW1.out (by omega) _ _ _ _ _)
       · by_cases h2 : (4000 : Int) < ((sumTo sub sub.length : Nat) : Int)
         · have HBA : Hid (enumE (gn : Int) rels sub limit = ([],(0,0),2)) := Lib.hid (HBAD.out (by unfold badArgs; simp; omega))
           clear HBAD
           have HRC2 := Lib.hid (HRC.out.set (.slice none 0 0) 0 0 0 2)
           go_wp2_with fail
           refine leave32 (q := w.heap.size + 1) HRC2.out _ rfl rfl rfl ?_
           exact EnumPostB.err HBA.out (setR_below HW1.out (by omega) _ _ _ _ _)
         · cases h3 : (sub.any fun w => w.any (letBad gn)) with
           | true =>
             have HBA : Hid (enumE (gn : Int) rels sub limit = ([],(0,0),2)) := Lib.hid (HBAD.out (by unfold badArgs; rw [h3]; simp))
             clear HBAD
             rw [h3] at H81
             clear h3
             go_wp2_with (first
               | (go_at_call 105; (with_reducible refine H81.out.mono ?_); rintro e w2 ⟨rfl,hb⟩
                  have HB2 := Lib.hid (HB1.out.trans (hb.mono HB1.out.size))
                  have HW2 := Lib.hid (HW1.out.trans (hb.mono HW1.out.size))
                  obtain ⟨-, -,hrc⟩ := HBX.out _ HB2.out
                  clear c0 c1 c2 c3 c4 f0 f1 f2 f3 f4
                  have HRC2 := Lib.hid (hrc.set (.slice none 0 0) 0 0 0 2)
                  obtain ⟨c0,c1,c2,c3,c4,f0,f1,f2,f3,f4⟩ := hrc
                  clear hb))
             refine leave32 (q := w.heap.size + 1) HRC2.out _ rfl rfl rfl ?_
             exact EnumPostB.err HBA.out (setR_below HW2.out (by omega) _ _ _ _ _)
           | false =>
             by_cases h4 : limit < 1 \/ 20000 < limit
             · have HBA : Hid (enumE (gn : Int) rels sub limit = ([],(0,0),2)) := Lib.hid (HBAD.out (by unfold badArgs; simp; omega))
               clear HBAD
               rw [h3] at H81
               clear h3
               rcases h4 with h4 | h4
               all_goals
                 go_wp2_with (first
                   | (go_at_call 105; (with_reducible refine H81.out.mono ?_); rintro e w2 ⟨rfl,hb⟩
                      have HB2 := Lib.hid (HB1.out.trans (hb.mono HB1.out.size))
                      have HW2 := Lib.hid (HW1.out.trans (hb.mono HW1.out.size))
                      obtain ⟨-, -,hrc⟩ := HBX.out _ HB2.out
                      clear c0 c1 c2 c3 c4 f0 f1 f2 f3 f4
                      have HRC2 := Lib.hid (hrc.set (.slice none 0 0) 0 0 0 2)
                      obtain ⟨c0,c1,c2,c3,c4,f0,f1,f2,f3,f4⟩ := hrc
                      clear hb))
                 refine leave32 (q := w.heap.size + 1) HRC2.out _ rfl rfl rfl ?_
                 exact EnumPostB.err HBA.out (setR_below HW2.out (by omega) _ _ _ _ _)
             · have h4a : 1 <= limit := by omega
               have h4b : limit <= 20000 := by omega
               have HOK : Hid (badArgs gn sub limit = false) := Lib.hid (by unfold badArgs; rw [h3]; simp; omega)
               have HSG := Lib.hid (subs_good h3)
               rw [h3] at H81
               obtain ⟨lim,rfl⟩ : ∃ lim : Nat,limit = (lim : Int) := ⟨limit.toNat,by omega⟩
               have HRUN : Hid (∀ w2,Below w0.heap.size w0 w2 -> Below w.heap.size w w2 -> Calls Try.prog 109 #[.pointer (some ⟨w2.heap.size,0,none⟩), .slice Ar rels.length cr, .slice As sub.length cs] (made116 w2 gn lim) fun e w' => ((∃ s',runS (2 * gn) lim rels sub = some s' /\ e = .returned (.tuple #[]) /\ StP w2.heap.size w2.heap.size (2 * gn) lim w' s') \/ (runS (2 * gn) lim rels sub = none /\ e = .panicked fullP)) /\ Below w2.heap.size (made116 w2 gn lim) w') := Lib.hid fun w2 hb0 hb => by
                 refine run85_any gn (2 * gn) w2.heap.size w2.heap.size lim rfl hg16 (made116 w2 gn lim) _ _ rels sub (StP.made w2 gn lim) (made116_size w2 gn lim) (by omega) (by omega) (Words.of (kept_tab.below HRR.out hb) (made116_below w2 gn lim)) (Words.of (kept_tab.below HSS.out hb) (made116_below w2 gn lim)) (getD_all (fun j hj => (HRG.out j hj).1) LOk.nil) (getD_all (fun j hj => HSG.out j hj) LOk.nil)
               clear h3 HBAD h4
               cases hrun : runS (2 * gn) lim rels sub with
               | none =>
                 have HEN := Lib.hid (enumE_full HPZ.out HOK.out hrun)
                 rw [hrun] at HRUN
                 clear hrun
                 go_wp2_with (first
                   | (go_at_call 105; (with_reducible refine H81.out.mono ?_); rintro e w2 ⟨rfl,hb⟩
                      have HB2 := Lib.hid (HB1.out.trans (hb.mono HB1.out.size))
                      have HW2 := Lib.hid (HW1.out.trans (hb.mono HW1.out.size))
                      clear c0 c1 c2 c3 c4 f0 f1 f2 f3 f4 hcg hcr
                      obtain ⟨hcg,hcr, -⟩ := HBX.out _ HB2.out
                      have hcr2 : (w2.alloc (.cells #[.int .i64 (2 * (gn : Int)), .int .i64 (lim : Int), .slice none 0 0, .slice none 0 0, .slice none 0 0, .int .i64 0, .int .i64 0] 123)).cell? ⟨w.heap.size,1,none⟩ = some (.slice Ar rels.length cr) := (HBX.out _ (HB2.out.trans ((made116_below w2 gn lim).mono HB2.out.size))).2.1
                      clear hb)
                   | (go_at_call 109; (refine ((HRUN.out w2 HB2.out HW2.out).mono (R' := fun e w' => e = .panicked fullP /\ Below w2.heap.size (made116 w2 gn lim) w') fun e w' ⟨h,hb⟩ => ⟨by
                        rcases h with ⟨s',h, -⟩ | ⟨-,h⟩
                        · cases h
                        · exact h,hb⟩).mono ?_); rintro e w3 ⟨rfl,hb⟩
                      have HB3 := Lib.hid (HB2.out.trans (((made116_below w2 gn lim).trans hb).mono HB2.out.size))
                      have HW3 := Lib.hid (HW2.out.trans (((made116_below w2 gn lim).trans hb).mono HW2.out.size))
                      clear hb))
                 have hrc3 := (HBX.out _ HB3.out).2.2
                 refine leaves_cons (f := 108) (args := #[.pointer (some ⟨w.heap.size + 1,0,none⟩), .pointer (some ⟨w.heap.size + 1 + 1,0,none⟩), .pointer (some ⟨w.heap.size + 1 + 1 + 1,0,none⟩)]) (by simp) (by simp [go_sem]) ?_
                 refine (catch84_full (w.heap.size + 1) w.heap.size w3 _ _ _ _ _ (by omega) hrc3).mono ?_
                 rintro e u' w4 ⟨rfl,rfl,hrc4,hb4⟩
                 exact leave32 hrc4 _ rfl rfl rfl (EnumPostB.err HEN.out (HW3.out.trans hb4))
               | some s' =>
                 have HEN := Lib.hid (enumE_some HPZ.out HOK.out hrun)
                 have hgc := run_good (lim := lim) (g := gn) (by omega) (fun j hj => (HRG.out j hj).1) (fun j hj => HSG.out j hj) hrun
                 have hts := tab_std hg1 hg16 (by omega) hgc.1 hgc.2
                 have HTS : Hid ((stdE gn (tabS s') 0).2 = 0) := Lib.hid (by rw [hts.2])
                 have HTG := Lib.hid hts.1
                 have HGC := Lib.hid hgc
                 have H86 : Hid (∀ W b,StP b b (2 * gn) lim W s' -> Calls Try.prog 110 #[.pointer (some ⟨b,0,none⟩)] W fun e w' => ∃ u,e = .returned u /\ Tab w' u (tabS s') /\ Below W.heap.size W w') := Lib.hid fun W b h => table86_any gn (2 * gn) b b lim rfl hg16 hg1 W s' h HGC.out.1 HGC.out.2 (by omega)
                 have H48 : Hid (∀ W u,Tab W u (tabS s') -> Calls Try.prog 56 #[.int .i64 (gn : Int),u, .int .i64 0] W fun e w' => (∃ u,e = .returned (.tuple #[u, .int .i64 0]) /\ TabB W.heap.size w' u (stdE gn (tabS s') 0).1) /\ Below W.heap.size W w') := Lib.hid fun W u h => (std48_goodB W u gn (tabS s') 0 h HTG.out (Int.le_refl _) (by have := HTG.out.n1; omega)).mono fun e w' ⟨⟨u,h1,h2⟩,h3⟩ => ⟨⟨u,by rw [h1,HTS.out],h2⟩,h3⟩
                 rw [hrun] at HRUN
                 clear hrun hgc hts
                 go_wp2_with (first
                   | (go_at_call 105; (with_reducible refine H81.out.mono ?_); rintro e w2 ⟨rfl,hb⟩
                      have HB2 := Lib.hid (HB1.out.trans (hb.mono HB1.out.size))
                      have HW2 := Lib.hid (HW1.out.trans (hb.mono HW1.out.size))
                      clear c0 c1 c2 c3 c4 f0 f1 f2 f3 f4 hcg hcr
                      obtain ⟨hcg,hcr, -⟩ := HBX.out _ HB2.out
                      have hcr2 : (w2.alloc (.cells #[.int .i64 (2 * (gn : Int)), .int .i64 (lim : Int), .slice none 0 0, .slice none 0 0, .slice none 0 0, .int .i64 0, .int .i64 0] 123)).cell? ⟨w.heap.size,1,none⟩ = some (.slice Ar rels.length cr) := (HBX.out _ (HB2.out.trans ((made116_below w2 gn lim).mono HB2.out.size))).2.1
                      clear hb)
                   | (go_at_call 109; (refine ((HRUN.out w2 HB2.out HW2.out).mono (R' := fun e w' => e = .returned (.tuple #[]) /\ StP w2.heap.size w2.heap.size (2 * gn) lim w' s' /\ Below w2.heap.size (made116 w2 gn lim) w') fun e w' ⟨h,hb⟩ => by
                        rcases h with ⟨s'',h1,h2,h3⟩ | ⟨h, -⟩
                        · cases h1; exact ⟨h2,h3,hb⟩
                        · cases h).mono ?_); rintro e w3 ⟨rfl,hs3,hb⟩
                      have HB3 := Lib.hid (HB2.out.trans (((made116_below w2 gn lim).trans hb).mono HB2.out.size))
                      have HW3 := Lib.hid (HW2.out.trans (((made116_below w2 gn lim).trans hb).mono HW2.out.size))
                      have HS3 := Lib.hid hs3
                      clear hb hs3))
                 clear hcr2 hcg hcr
                 have HSX : Hid (∀ W,Below w3.heap.size w3 W -> StP w2.heap.size w2.heap.size (2 * gn) lim W s') := Lib.hid fun W h => HS3.out.below h
                 have hcg := (HBX.out _ HB3.out).1
                 generalize hQ : w.heap.size = Q at *
                 generalize hQ2 : w2.heap.size = Q2 at *
                 have HQ := Lib.hid hQ
                 have HQ2 := Lib.hid hQ2
                 clear hQ hQ2
                 go_region_held3 (fun w' => w'.cell? ⟨Q,0,none⟩ = some (.int .i64 (gn : Int))) (first | go_keep | (rw [World.cell?_setCell_other _ _ _ _ (by intro h; injection h with h; omega),World.cell?_setCell_other _ _ _ _ (by intro h; injection h with h; omega)]; assumption))
                   (first
                     | (go_at_call 110; (refine (H86.out _ _ (HSX.out _ (Below.refl _ w3).drew)).mono ?_); rintro e w4 ⟨u,rfl,ht4,hb⟩
                        have hb4 : Below w3.heap.size w3 w4 := (Below.refl _ w3).drew.trans hb
                        have HB4 := Lib.hid hb4
                        have HT4 := Lib.hid ht4
                        have hcg4 := (HBX.out _ (HB3.out.trans (hb4.mono HB3.out.size))).1
                        obtain ⟨A4,n4,rfl⟩ := Tab.form ht4
                        clear hb hb4 ht4)
                     | (go_at_call 56; (refine (H48.out _ _ HT4.out).mono ?_); rintro e w5 ⟨⟨u5,rfl,ht5⟩,hb⟩
                        have hb5 : Below w3.heap.size w3 w5 := HB4.out.trans (hb.mono HB4.out.size)
                        have HB5 := Lib.hid hb5
                        have HT5 := Lib.hid ht5
                        obtain ⟨hcg5, -,hrc5⟩ := HBX.out _ (HB3.out.trans (hb5.mono HB3.out.size))
                        have HRC5 := Lib.hid hrc5
                        obtain ⟨c0,c1,c2,c3,c4,f0,f1,f2,f3,f4⟩ := hrc5
                        obtain ⟨A5,n5,rfl⟩ := Tab.form ht5.at_
                        clear hb hb5 ht5))
                 obtain ⟨Ag,cg,r2,r6⟩ := (HSX.out _ HB5.out).tops
                 have hq4 : Q + 1 + 1 + 1 < w4.heap.size := by
                   have h1 := HRC5.out.lt
                   have h2 := HB4.out.size
                   have h3 := HB3.out.size
                   have h4 := HSZ.out
                   omega
                 have hQw : Q <= w3.heap.size := by have := HW3.out.size; have := HQ.out; omega
                 have HT6 := Lib.hid ((HT5.out.setCell (p := ⟨Q + 1,0,none⟩) (by show Q + 1 < _; omega) (.slice A5 (stdE gn (tabS s') 0).1.length n5)).setCell (p := ⟨Q + 1 + 1 + 1,0,none⟩) hq4 (.int .i64 0))
                 have hrc6 := HRC5.out.set2 (.slice A5 (stdE gn (tabS s') 0).1.length n5) 0
                 have HW6 : Hid (Below Q w ((w5.setCell ⟨Q + 1,0,none⟩ (.slice A5 (stdE gn (tabS s') 0).1.length n5)).setCell ⟨Q + 1 + 1 + 1,0,none⟩ (.int .i64 0))) := Lib.hid (((HW3.out.trans (HB5.out.mono hQw)).setCell (p := ⟨Q + 1,0,none⟩) (by show Q <= Q + 1; omega) _).setCell (p := ⟨Q + 1 + 1 + 1,0,none⟩) (by show Q <= Q + 1 + 1 + 1; omega) _)
                 have s2 : ((w5.setCell ⟨Q + 1,0,none⟩ (.slice A5 (stdE gn (tabS s') 0).1.length n5)).setCell ⟨Q + 1 + 1 + 1,0,none⟩ (.int .i64 0)).cell? ⟨Q2,2,none⟩ = some (.slice Ag s'.t.length cg) := by
                   rw [World.cell?_setCell_other _ _ _ _ (addr_ne (.inr (by simp))),World.cell?_setCell_other _ _ _ _ (addr_ne (.inr (by simp)))]; exact r2
                 have s6 : ((w5.setCell ⟨Q + 1,0,none⟩ (.slice A5 (stdE gn (tabS s') 0).1.length n5)).setCell ⟨Q + 1 + 1 + 1,0,none⟩ (.int .i64 0)).cell? ⟨Q2,6,none⟩ = some (.int .i64 s'.most) := by
                   rw [World.cell?_setCell_other _ _ _ _ (addr_ne (.inr (by simp))),World.cell?_setCell_other _ _ _ _ (addr_ne (.inr (by simp)))]; exact r6
                 generalize (w5.setCell ⟨Q + 1,0,none⟩ (.slice A5 (stdE gn (tabS s') 0).1.length n5)).setCell ⟨Q + 1 + 1 + 1,0,none⟩ (.int .i64 0) = W6 at *
                 have HRC6 := Lib.hid hrc6
                 have HRC7 := Lib.hid (hrc6.set (.slice A5 (stdE gn (tabS s') 0).1.length n5) s'.t.length s'.most 0 0)
                 clear c0 c1 c2 c3 c4 f0 f1 f2 f3 f4 r2 r6 hcg hcg4 hcg5
                 obtain ⟨c0,c1,c2,c3,c4,f0,f1,f2,f3,f4⟩ := hrc6
                 have hl0 : (0 : Int) <= (s'.t.length : Int) := Int.natCast_nonneg _
                 have HNQ : Hid (Q + 1 + 1 ≠ Q2) := Lib.hid (by
                   have h1 := HB2.out.size
                   have h4 := HSZ.out
                   have h5 := HQ2.out
                   omega)
                 have HS0 : Hid (S16 (Q + 1) Q2 (.slice A5 (stdE gn (tabS s') 0).1.length n5) (.slice Ag s'.t.length cg) (.int .i64 s'.most) W6) := Lib.hid ⟨c0,s2,s6,c4⟩
                 go_wp2_with fail
                 go_region_held3 (fun w' => w'.cell? ⟨Q + 1,0,none⟩ = some (.slice A5 (stdE gn (tabS s') 0).1.length n5) /\ w'.cell? ⟨Q2,2,none⟩ = some (.slice Ag s'.t.length cg) /\ w'.cell? ⟨Q2,6,none⟩ = some (.int .i64 s'.most) /\ w'.cell? ⟨Q + 1 + 1 + 1,0,none⟩ = some (.int .i64 0))
                   (first | with_reducible exact HS0.out.drew | with_reducible exact HS0.out.st0.drew | with_reducible exact (HS0.out.st0.st1 _ _ HNQ.out _).drew | with_reducible exact (HS0.out.st0.st1 _ _ HNQ.out _).st2.drew)
                   (fail)
                 go_wp2_with fail
                 refine leaves_cons (f := 108) (args := #[.pointer (some ⟨Q + 1,0,none⟩), .pointer (some ⟨Q + 1 + 1,0,none⟩), .pointer (some ⟨Q + 1 + 1 + 1,0,none⟩)]) (by simp) (by simp [go_sem]) ?_
                 refine (catch84_idle _ _ _ _).mono ?_
                 rintro e u' w9 ⟨rfl,rfl,hb9⟩
                 have hb8 : Below (setR (Q + 1) W6 (.slice A5 (stdE gn (tabS s') 0).1.length n5) s'.t.length s'.most 0 0).heap.size (setR (Q + 1) W6 (.slice A5 (stdE gn (tabS s') 0).1.length n5) s'.t.length s'.most 0 0) w9 := (Below.refl _ _).drew.trans hb9
                 have hrc9 : ResC (Q + 1) w9 (.slice A5 (stdE gn (tabS s') 0).1.length n5) s'.t.length s'.most 0 0 := HRC7.out.below HRC7.out.lt hb8
                 refine leave32 hrc9 _ rfl rfl rfl ?_
                 unfold EnumPostB
                 rw [HEN.out]
                 have hT7 := setR_tabB HT6.out (by omega) hq4 (.slice A5 (stdE gn (tabS s') 0).1.length n5) s'.t.length s'.most 0 0
                 refine ⟨⟨_,rfl,(hT7.belowB hb8).low (by have := HQ.out; omega)⟩, ?_⟩
                 have hb7 := setR_below HW6.out (q := Q + 1) (by omega) (.slice A5 (stdE gn (tabS s') 0).1.length n5) s'.t.length s'.most 0 0
                 rw [HQ.out]
                 exact hb7.trans (hb8.mono (by have := hb7.size; have := HQ.out; omega))
 · have d1 : (presE g rels != 0) = true := by simpa using he
   have HE : Hid (enumE g rels sub limit = ([],(0,0),presE g rels)) := Lib.hid (enumE_pres he)
   generalize presE g rels = x at *
   clear he
   go_wp2_with (first
     | (go_at_call 102; (with_reducible refine (H78.out w0 (kept_tab.below HRR.out HB0.out)).mono ?_); rintro e w1 ⟨⟨y,rfl⟩,hb⟩
        have HB1 := Lib.hid hb
        obtain ⟨-, -,hrc⟩ := HBX.out _ hb
        have HRC := Lib.hid (hrc.set (.slice none 0 0) 0 0 0 x)
        obtain ⟨c0,c1,c2,c3,c4,f0,f1,f2,f3,f4⟩ := hrc
        clear hb))
   refine leave32 (q := w.heap.size + 1) HRC.out _ rfl rfl rfl ?_
   exact EnumPostB.err HE.out (setR_below (HB0.out.trans (HB1.out.mono HB0.out.size)) (by omega) _ _ _ _ _)
theorem enum32_any (w : World) (vr vs : Value) (g : Int) (rels sub : List W) (limit : Int) (hR : Tab w vr rels) (hS : Tab w vs sub) (hsm : ∀ j,(sub.getD j []).length <= 100000) (hsl : sub.length <= 1000000) : Calls Try.prog 40 #[.agg #[.int .i64 g,vr],vs, .int .i64 limit] w (EnumPost g rels sub limit w) :=
 (enum32_B w vr vs g rels sub limit hR hS hsm hsl).mono fun _ _ h => h.plain
end Go.Proofs
namespace Go.Proofs
open Go.RowKit Go.Shelf Go.Proofs.Ct Go.Maps
structure NumC (q : Nat) (w : World) (a b c : Int) : Prop where
 c1 : w.cell? ⟨q,0,none⟩ = some (.int .i64 a)
 c2 : w.cell? ⟨q,1,none⟩ = some (.int .i64 b)
 c3 : w.cell? ⟨q,2,none⟩ = some (.int .i64 c)
 f1 : w.frozen? ⟨q,0,none⟩ = false
 f2 : w.frozen? ⟨q,1,none⟩ = false
 f3 : w.frozen? ⟨q,2,none⟩ = false
def setN (q : Nat) (w : World) (a b c : Int) : World := ((w.setCell ⟨q,0,none⟩ (.int .i64 a)).setCell ⟨q,1,none⟩ (.int .i64 b)).setCell ⟨q,2,none⟩ (.int .i64 c)
end Go.Proofs
namespace Go.Proofs
open Go.RowKit Go.Shelf Go.Proofs.Ct Go.Maps
def smallT : List (List Int) := [[1,1], [2,2,2], [1,2,1,2]]
theorem ints_blk {w : World} {b : Nat} {xs : List Int} (h : w.heap[b]? = some (.cells (ints xs).toArray 3 (0,0))) (hf : Fits xs) {n : Nat} (hn : xs.length = n) (hm : n <= 1000) : IntsAt w (.slice (some ⟨b,0,none⟩) n n) xs := by
 subst hn
 have hl : xs.length <= 9223372036854775807 := by omega
 refine ⟨⟨_,xs.length,xs.length,rfl,by simp [ints],Nat.le_refl _,by simpa [maxLen] using hl,fun _ => ⟨b,0,rfl,fun j u hu => ?_⟩⟩,hf⟩
 rw [cell_of_row _ _ _ _ _ _ h,Nat.zero_add]
 simpa using hu
theorem tab_blk {w : World} {b : Nat} {us : List Value} {xs : List (List Int)} {e : TypeId} (hb : w.heap[b]? = some (.cells us.toArray e (0,0))) {n : Nat} (hn : us.length = n) (hl : us.length = xs.length) (hm : us.length <= 1000) (h : ∀ i,i < xs.length -> IntsAt w (us.getD i undef) (xs.getD i [])) :
   Tab w (.slice (some ⟨b,0,none⟩) n n) xs := by
 subst hn
 have hl9 : us.length <= 9223372036854775807 := by omega
 refine ⟨us,⟨_,us.length,us.length,rfl,rfl,Nat.le_refl _,by simpa [maxLen] using hl9,fun _ => ⟨b,0,rfl,fun j u hu => ?_⟩⟩,hl,fun i hi => ?_⟩
 · rw [cell_of_row _ _ _ _ _ _ hb,Nat.zero_add]
   simpa using hu
 · have hi' : i < us.length := by omega
   refine ⟨us.getD i undef, ?_,h i hi⟩
   simp [List.getD_eq_getElem?_getD,hi']
theorem fits_lit {xs : List Int} (h : (xs.all fun x => decide (-1000 <= x) && decide (x <= 1000)) = true) : Fits xs := fun x hx => by
 have := List.all_eq_true.1 h x hx
 simp at this
 omega
theorem build40s (g : Int) (A : Option Addr) (n c : Nat) (w : World) : (Instr.build 40 #[(0, .int .i64 g),(1, .slice A n c)]).run Try.prog w = .ok (.agg #[.int .i64 g, .slice A n c]) w := by kernel_rfl
section
variable {o : Oper} {a : Act} {w w' : World} {n : Nat} {v : Value}
theorem r_build40s (x y : Operand) (g : Int) (A : Option Addr) (m c : Nat) (ho : o.op = .build 40 #[(0,x),(1,y)]) (hx : a.eval x = .int .i64 g) (hy : a.eval y = .slice A m c) : (execOp a.eval o).run Try.prog w = .ok (.value (.agg #[.int .i64 g, .slice A m c])) w := by
 have hb := build40s g A m c w
 unfold execOp
 simp only [ho,List.map_toArray,List.map_cons,List.map_nil,hx,hy,Sem.run_bind,hb,Result.andThen_ok]
 rfl
end
theorem results_40 {fn : Func} {p : Tmp} (h : fn.results = #[.cell p 40]) (tmps : Array Value) (w : World) (g : Nat) (cs : Array Value)
   (hp : tmps.getD p undef = .pointer (some ⟨g,0,none⟩)) (hg : w.heap[g]? = some (.cells cs 40 (0,0))) (hs : cs.size = 2) :
   (results fn tmps).run Try.prog w = .ok (.agg cs) w := by
 have hp' : tmps[p]?.getD undef = .pointer (some ⟨g,0,none⟩) := by simpa using hp
 simp [results,h,hp',asAddr,run_loadVar_row w g 40 40 cs (0,0) _ hg Try.underlying40 rfl (by rw [hs]; exact info40s)]
def PresAt (g : Int) (l : List (List Int)) (w : World) (e : Ending) (w' : World) : Prop := (∃ A c,e = .returned (.agg #[.int .i64 g, .slice A l.length c]) /\ Tab w' (.slice A l.length c) l) /\ Below w.heap.size w w'
inductive SP where
 | eq (v : Value) | ints (l : List Int) | tab (l : List (List Int)) | pres (g : Int) (l : List (List Int)) | any
def SP.holds : SP -> Value -> World -> Prop
 | .eq u,v,_ => v = u
 | .ints l,v,w => IntsAt w v l
 | .tab l,v,w => ∃ A c,v = .slice A l.length c /\ Tab w v l
 | .pres g l,v,w => ∃ A c,v = .agg #[.int .i64 g, .slice A l.length c] /\ Tab w (.slice A l.length c) l
 | .any,_,_ => True
section
variable {o : Oper} {a : Act} {w w' : World} {n : Nat} {v : Value}
end
end Go.Proofs
