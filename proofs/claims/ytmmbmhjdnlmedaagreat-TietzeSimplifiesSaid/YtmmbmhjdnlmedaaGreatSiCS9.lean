/- The reference's pres.Least; slices.SortFunc at words, by word.Cmp; slices.SortFunc at words, whole; pres.equal; slices.CompactFunc at words: what a list under way is; slices.CompactFunc at words, by pres.equal. -/
import Derived.Test.YtmmbmhjdnlmedaaGreatSiCS8
import Derived.Shelf.SlSortCmp.Whole1
import Derived.Shelf.Lay
import Derived.Ground.SlsfProg
import Derived.Test.YtmmbmhjdnlmedaaGreatSiCS2
import Derived.Lib.SliceRun
import Derived.Lib.EndianMore
namespace Go.Proofs
open Go.RowKit Go.Shelf Go.Lib Go.Sort Go.Proofs.Ct Go.Proofs.Tz
theorem bestTo_succ (v b : W) (k : Nat) : bestTo v b (k + 1) = if cmpW (rot v k) (bestTo v b k) < 0 then rot v k else bestTo v b k := rfl
theorem mem_rot {v : W} {k : Nat} {z : Int} (h : z ∈ rot v k) : z ∈ v := by
 rcases List.mem_append.1 h with h | h
 · exact List.mem_of_mem_drop h
 · exact List.mem_of_mem_take h
theorem bestTo_sub (v b : W) : ∀ k,k <= v.length -> (∀ z ∈ bestTo v b k,z ∈ v \/ z ∈ b) /\ (bestTo v b k).length <= max v.length b.length
 | 0,_ => ⟨fun z hz => .inr hz,Nat.le_max_right _ _⟩
 | k + 1,h => by
   obtain ⟨h1,h2⟩ := bestTo_sub v b k (by omega)
   rw [bestTo_succ]
   split
   · exact ⟨fun z hz => .inl (mem_rot hz),by rw [length_rot v (by omega)]; exact Nat.le_max_left _ _⟩
   · exact ⟨h1,h2⟩
set_option maxRecDepth 100000 in
set_option maxHeartbeats 2000000 in
theorem least77_any (w : World) (u : Value) (x : List Int) (h : IntsAt w u x) (hok : LOk 16 x) (hl : x.length <= 4000) : Calls Tryz.prog 77 #[u] w (OwnPost (leastW x) w) := by
 have hmx : ∀ z ∈ x,Mild z := fun z hz => by have := hok z hz; exact ⟨by omega,by omega⟩
 obtain ⟨A0,c0,rfl, -⟩ := h.open_
 have H114 := Lib.hid (check114_ok w _ x h hok hl)
 have H115 := Lib.hid (cyclic115_any w _ x h hmx (by omega))
 have hcm : ∀ z ∈ cyc x,Mild z := fun z hz => hmx z ((cyc_sub x).1 z hz)
 have hcl : (cyc x).length <= 4000 := Nat.le_trans (cyc_sub x).2 hl
 have HCM : Hid ((∀ z ∈ cyc x,Mild z) /\ (cyc x).length <= 4000) := Lib.hid ⟨hcm,hcl⟩
 have HLW : Hid (leastW x = bestTo (invW (cyc x)) (bestTo (cyc x) (cyc x) (cyc x).length) (invW (cyc x)).length) := Lib.hid rfl
 clear h hok hl hmx hcm hcl
 generalize leastW x = R at *
 generalize cyc x = V at *
 unfold OwnPost at H115 ⊢
 go_enter Tryz.func77,Tryz.ntmps77
 go_wp2_with fail
 refine H114.out.mono ?_
 rintro e w1 ⟨rfl,rfl⟩
 go_wp2_with fail
 refine H115.out.mono ?_
 rintro e w1 ⟨A,c,rfl,ho,hb⟩
 have HO : Hid (IntsAt w1 (.slice A V.length c) V) := Lib.hid (OwnI.ints ho (Mild.fits HCM.out.1))
 have HB := Lib.hid hb
 clear ho hb H114 H115
 go_wp2_with fail
 go_loopw [3,4,5] (fun vv vb vs wr => ∃ (s : Nat) (v b : List Int) (A : Option Addr) (c : Nat) (B : Option Addr) (d : Nat),vs = .int .i64 (s : Int) /\ s <= 2 /\ vv = .slice A v.length c /\ vb = .slice B b.length d /\ Hid ((s = 0 /\ v = V /\ b = V \/ s = 1 /\ v = invW V /\ b = bestTo V V V.length \/ s = 2 /\ b = R) /\ IntsAt wr (.slice A v.length c) v /\ IntsAt wr (.slice B b.length d) b /\ ((∀ z ∈ v,Mild z) /\ v.length <= 4000) /\ ((∀ z ∈ b,Mild z) /\ b.length <= 4000) /\ Below w1.heap.size w1 wr)) (fun _ _ s _ => 2 - (intOf s).toNat)
 case atStart => exact ⟨0,V,V,A,c,A,c,rfl,by omega,rfl,rfl,Lib.hid ⟨.inl ⟨rfl,rfl,rfl⟩,HO.out,HO.out,HCM.out,HCM.out,Below.refl _ _⟩⟩
 case round =>
   obtain ⟨s,v,b,A,c,B,d,rfl,hs,rfl,rfl,HI⟩ := hrel
   have hs0 : (0 : Int) <= (s : Int) := Int.natCast_nonneg _
   by_cases hs2 : s < 2
   · have hs2' : (s : Int) < 2 := by omega
     obtain ⟨nv,hnv⟩ : ∃ nv,nv = v.length := ⟨_,rfl⟩
     rw [<- hnv] at HI ⊢
     have HNV := Lib.hid hnv
     obtain ⟨wo,hwo⟩ : ∃ wo,wo = wr := ⟨_,rfl⟩
     rw [<- hwo] at HI ⊢
     clear hwo hnv
     have hnv1 : (nv : Int) <= 4000 := by have := HI.out.2.2.2.1.2; have := HNV.out; omega
     have hnv0 : (0 : Int) <= (nv : Int) := Int.natCast_nonneg _
     go_wp2_with fail
     go_loopw [4,6] (fun vb vk wr => ∃ (k : Nat) (b2 : List Int) (B : Option Addr) (d : Nat),vk = .int .i64 (k : Int) /\ k <= nv /\ vb = .slice B b2.length d /\ Hid (b2 = bestTo v b k /\ IntsAt wr (.slice B b2.length d) b2 /\ Below wo.heap.size wo wr)) (fun _ k _ => nv - (intOf k).toNat)
     case atStart => exact ⟨0,b,B,d,rfl,by omega,rfl,Lib.hid ⟨rfl,HI.out.2.2.1,Below.refl _ _⟩⟩
     case round =>
       obtain ⟨k,b2,B2,d2,rfl,hk,rfl,HJ⟩ := hrel
       have hk0 : (0 : Int) <= (k : Int) := Int.natCast_nonneg _
       have HSUB : Hid ((∀ z ∈ b2,Mild z) /\ b2.length <= 4000) := Lib.hid (by
         obtain ⟨q1,q2⟩ := bestTo_sub v b k (by rw [<- HNV.out]; exact hk)
         rw [HJ.out.1]
         refine ⟨fun z hz => (q1 z hz).elim (HI.out.2.2.2.1.1 z) (HI.out.2.2.2.2.1.1 z), ?_⟩
         have := HI.out.2.2.2.1.2
         have := HI.out.2.2.2.2.1.2
         have := HNV.out
         omega)
       by_cases hkn : k < nv
       · have hkn' : (k : Int) < (nv : Int) := by omega
         obtain ⟨Al,cl,Ah,ch,A1,c1,w7,A2,c2,w8,e1,e2,hc,r1,r2,ho,hb⟩ := rot_mem' (w := wr.drew) (k := k) HNV.out (HI.out.2.1.below (HJ.out.2.2.trans (Below.refl _ _).drew)) (by omega) (by omega)
         obtain ⟨nk,hnk⟩ : ∃ nk,nk = nv - k := ⟨_,rfl⟩
         rw [<- hnk] at e1 r1 r2
         have HL1 := Lib.hid e1
         have HL2 := Lib.hid e2
         have HC := Lib.hid hc
         have HK : Hid (k <= nv) := Lib.hid (by omega)
         have HR1 : Hid ((Builtin.append_ #[36,36] 36 #[.slice (some ⟨wr.heap.size,0,none⟩) 0 0, .slice Al nk cl]).run Tryz.prog (wr.drew.alloc (.cells #[] 3)) = .ok (.slice A1 nk c1) w7) := Lib.hid r1
         have HR2 := Lib.hid r2
         have hbw : Below wr.heap.size wr w8 := (Below.refl _ _).drew.trans hb
         have HRM : Hid (∀ z ∈ rot v k,Mild z) := Lib.hid fun z hz => HI.out.2.2.2.1.1 z (mem_rot hz)
         have HRI : Hid (IntsAt w8 (.slice A2 nv c2) (rot v k)) := Lib.hid (OwnI.ints ho (Mild.fits HRM.out))
         have HBI : Hid (IntsAt w8 (.slice B2 b2.length d2) b2) := Lib.hid (HJ.out.2.1.below hbw)
         have HB8 : Hid (Below wo.heap.size wo w8) := Lib.hid (HJ.out.2.2.trans (hbw.mono HJ.out.2.2.size))
         have HRL : Hid ((rot v k).length = nv) := Lib.hid (by rw [length_rot v (by rw [<- HNV.out]; exact hk)]; exact HNV.out.symm)
         have HCMP := Lib.hid (cmp78_any w8 _ _ (rot v k) b2 HRI.out HBI.out HRM.out HSUB.out.1)
         have HST : Hid (bestTo v b (k + 1) = if cmpW (rot v k) b2 < 0 then rot v k else b2) := Lib.hid (by rw [bestTo_succ,HJ.out.1])
         clear e1 e2 hc r1 r2 ho hb hbw hnk HJ HSUB hkn
         generalize rot v k = rk at *
         go_wp2_with fail
         refine (wpIn_wide (n := 3)).1 ?_
         refine wpIn_region_all (by kernel_rfl) 10 rfl (fun i => if i < 9 then some (24 + i) else some 7) (lex_of (by kernel_rfl)) (fun ls W => W = bif ls 8 then w8 else bif ls 4 then w7 else bif ls 0 then wr.drew.alloc (.cells #[] 3) else wr.drew)
           (fun i v _ => v = ([.slice (some ⟨wr.heap.size,0,none⟩) 0 0, .slice A nv c, .int .i64 (k : Int), .slice Al nk cl, .slice A1 nk c1, .slice A nv c, .int .i64 (k : Int), .slice Ah k ch, .slice A2 nv c2, .slice A2 nv c2] : List Value).getD i undef) (fun _ _ _ => True) (dm_inj (by kernel_rfl)) (fun _ _ _ _ _ _ _ _ _ h => h) (dm_lt (n := 43) (by kernel_rfl)) rfl ?_ ?_
         · intro ls q o a w2 hq ho hS2 hls hcl hP hpre
           have hcases : q = 0 \/ q = 1 \/ q = 2 \/ q = 3 \/ q = 4 \/ q = 5 \/ q = 6 \/ q = 7 \/ q = 8 \/ q = 9 := by
             have : q < 10 := hq
             omega
           rcases hcases with rfl | rfl | rfl | rfl | rfl | rfl | rfl | rfl | rfl | rfl
           · obtain rfl := Option.some.inj ho
             have h4 := not_yet hcl 4 rfl ⟨0, .data⟩ (by simp) rfl hls
             have h8 := not_yet hcl 8 rfl ⟨4, .data⟩ (by simp) rfl h4
             rw [h4,h8,hls] at hS2
             have hS3 : w2 = wr.drew := hS2
             subst hS3
             exact wpOpIn_of rfl rfl (wpW_val (r_bs36e rfl) ⟨_,rfl,(by rw [show (fun j => if 0 = j then true else ls j) 8 = false from h8,show (fun j => if 0 = j then true else ls j) 4 = false from h4]; rfl),trivial,(fun h => by simp at h),rfl⟩)
           · obtain rfl := Option.some.inj ho
             exact wpOpIn_of rfl rfl (wpW_val (r_move (.tmp 3) rfl (hP.out 3 (dm_out (by kernel_rfl)))) ⟨_,rfl,hS2,trivial,(fun h => by simp at h),rfl⟩)
           · obtain rfl := Option.some.inj ho
             exact wpOpIn_of rfl rfl (wpW_val (r_move (.tmp 6) rfl (hP.out 6 (dm_out (by kernel_rfl)))) ⟨_,rfl,hS2,trivial,(fun h => by simp at h),rfl⟩)
           · obtain rfl := Option.some.inj ho
             exact wpOpIn_of rfl rfl (wpW_val ((run_sl_lo under24w size24w (.tmp 25) (.tmp 26) A nv c k rfl (hpre ⟨1, .data⟩ (by simp) rfl).2 (hpre ⟨2, .data⟩ (by simp) rfl).2 HK.out).trans (by rw [HL1.out]; rfl)) ⟨_,rfl,hS2,trivial,(fun h => by simp at h),rfl⟩)
           · obtain rfl := Option.some.inj ho
             have h8 := not_yet hcl 8 rfl ⟨4, .data⟩ (by simp) rfl hls
             have h0 : ls 0 = true := (hpre ⟨0, .data⟩ (by simp) rfl).1
             rw [h8,hls,h0] at hS2
             have hS3 : w2 = wr.drew.alloc (.cells #[] 3) := hS2
             subst hS3
             exact wpOpIn_of rfl rfl (wpW_val (r_app (.tmp 24) (.tmp 27) 36 rfl (hpre ⟨0, .data⟩ (by simp) rfl).2 (hpre ⟨3, .data⟩ (by simp) rfl).2 HR1.out) ⟨_,rfl,(by rw [show (fun j => if 4 = j then true else ls j) 8 = false from h8]; rfl),trivial,(fun h => by simp at h),rfl⟩)
           · obtain rfl := Option.some.inj ho
             exact wpOpIn_of rfl rfl (wpW_val (r_move (.tmp 3) rfl (hP.out 3 (dm_out (by kernel_rfl)))) ⟨_,rfl,hS2,trivial,(fun h => by simp at h),rfl⟩)
           · obtain rfl := Option.some.inj ho
             exact wpOpIn_of rfl rfl (wpW_val (r_move (.tmp 6) rfl (hP.out 6 (dm_out (by kernel_rfl)))) ⟨_,rfl,hS2,trivial,(fun h => by simp at h),rfl⟩)
           · obtain rfl := Option.some.inj ho
             exact wpOpIn_of rfl rfl (wpW_val ((run_sl_hi under24w size24w (.tmp 29) (.tmp 30) A nv c k rfl (hpre ⟨5, .data⟩ (by simp) rfl).2 (hpre ⟨6, .data⟩ (by simp) rfl).2 HC.out).trans (by rw [HL2.out]; rfl)) ⟨_,rfl,hS2,trivial,(fun h => by simp at h),rfl⟩)
           · obtain rfl := Option.some.inj ho
             have h4 : ls 4 = true := (hpre ⟨4, .data⟩ (by simp) rfl).1
             rw [hls,h4] at hS2
             have hS3 : w2 = w7 := hS2
             subst hS3
             exact wpOpIn_of rfl rfl (wpW_val (r_app (.tmp 28) (.tmp 31) 36 rfl (hpre ⟨4, .data⟩ (by simp) rfl).2 (hpre ⟨7, .data⟩ (by simp) rfl).2 HR2.out) ⟨_,rfl,rfl,trivial,(fun h => by simp at h),rfl⟩)
           · obtain rfl := Option.some.inj ho
             exact wpOpIn_of rfl rfl (wpW_val (r_assign (.tmp 32) rfl (hpre ⟨8, .data⟩ (by simp) rfl).2) ⟨_,rfl,hS2,trivial,(fun h => by simp at h),rfl⟩)
         · intro ls a w2 hall hS2 hP hsl
           have h8 : ls 8 = true := hall 8 (by decide)
           rw [h8] at hS2
           obtain ⟨vs,hvs,hfr⟩ := hP.frame 43 rfl
           have hv5 : vs 7 = .slice A2 nv c2 := (hvs 7).trans (hsl 9 (by decide))
           have hS3 : w2 = w8 := hS2
           clear hsl hP hall h8 hvs HR1 HR2 HL1 HL2 hS2
           subst hfr
           subst hS3
           dsimp only
           simp only [List.range,List.range.loop,List.map_cons,List.map_nil,List.any_cons,List.any_nil,Nat.reduceAdd,Nat.reduceBEq,Nat.reduceLT,Option.some_beq_some,Bool.or_false,Bool.or_true,Bool.false_eq_true,if_true,if_false,List.getD_cons_zero,List.getD_cons_succ,hv5]
           go_wp2_with fail
           refine HCMP.out.mono ?_
           rintro e w' ⟨rfl,q,rfl⟩
           have HB9 : Hid (Below wo.heap.size wo (w2.drewN q)) := Lib.hid (below_drewN HB8.out q)
           have HRI9 : Hid (IntsAt (w2.drewN q) (.slice A2 nv c2) rk) := Lib.hid (HRI.out.drewN q)
           have HBI9 : Hid (IntsAt (w2.drewN q) (.slice B2 b2.length d2) b2) := Lib.hid (HBI.out.drewN q)
           by_cases hz : cmpW rk b2 < 0
           · have HST2 : Hid (bestTo v b (k + 1) = rk) := Lib.hid (by rw [HST.out,if_pos hz])
             generalize cmpW rk b2 = z at *
             go_wp2_with fail
             go_roundw
             case rel => exact ⟨k + 1,rk,A2,c2,by go_num,by omega,by rw [HRL.out],Lib.hid ⟨HST2.out.symm,by rw [HRL.out]; exact HRI9.out,HB9.out⟩⟩
             case measure => simp [intOf]; omega
           · have HST2 : Hid (bestTo v b (k + 1) = b2) := Lib.hid (by rw [HST.out,if_neg hz])
             generalize cmpW rk b2 = z at *
             go_wp2_with fail
             go_roundw
             case rel => exact ⟨k + 1,b2,B2,d2,by go_num,by omega,rfl,Lib.hid ⟨HST2.out.symm,HBI9.out,HB9.out⟩⟩
             case measure => simp [intOf]; omega
       · obtain rfl : k = nv := by omega
         have HIV := Lib.hid (invert102_any wr _ v (HI.out.2.1.below HJ.out.2.2) HI.out.2.2.2.1.1 (by have := HI.out.2.2.2.1.2; have := HNV.out; omega))
         unfold RedPost at HIV
         have HVM : Hid ((∀ z ∈ red (inv v),Mild z) /\ (red (inv v)).length <= 4000) := Lib.hid ⟨fun z hz => mild_inv HI.out.2.2.2.1.1 z (red_mem hz),by have := red_length (inv v); have h2 := HI.out.2.2.2.1.2; have h3 := HNV.out; have h4 := length_inv v; omega⟩
         have HNX : Hid (s + 1 = 1 /\ red (inv v) = invW V /\ b2 = bestTo V V V.length \/ s + 1 = 2 /\ b2 = R) := Lib.hid (by
           rcases HI.out.1 with ⟨h1,h2,h3⟩ | ⟨h1,h2,h3⟩ | ⟨h1, -⟩
           · exact .inl ⟨by omega,by rw [h2]; rfl,by rw [HJ.out.1,HNV.out,h2,h3]⟩
           · exact .inr ⟨by omega,by rw [HJ.out.1,HNV.out,h2,h3,HLW.out]⟩
           · omega)
         generalize red (inv v) = y at *
         go_wp2_with fail
         refine HIV.out.mono ?_
         rintro e w9 ⟨A9,c9,rfl,ho,hb⟩
         have HO9 : Hid (IntsAt w9 (.slice A9 y.length c9) y) := Lib.hid (OwnI.ints ho (Mild.fits HVM.out.1))
         have HBI9 : Hid (IntsAt w9 (.slice B2 b2.length d2) b2) := Lib.hid (HJ.out.2.1.below hb)
         have HB9 : Hid (Below w1.heap.size w1 w9) := Lib.hid (by
           have h1 := HI.out.2.2.2.2.2
           have h2 := HJ.out.2.2
           exact (h1.trans (h2.mono h1.size)).trans (hb.mono (Nat.le_trans h1.size h2.size)))
         clear ho hb HIV
         go_wp2_with fail
         go_roundw
         case rel => exact ⟨s + 1,y,b2,A9,c9,B2,d2,by go_num,by omega,rfl,rfl,Lib.hid ⟨HNX.out.elim (fun h => .inr (.inl h)) (fun h => .inr (.inr h)),HO9.out,HBI9.out,HVM.out,HSUB.out,HB9.out⟩⟩
         case measure => simp [intOf]; omega
   · obtain rfl : s = 2 := by omega
     have HBR : Hid (b = R) := Lib.hid (by
       rcases HI.out.1 with ⟨h, -⟩ | ⟨h, -⟩ | ⟨-,h⟩
       · omega
       · omega
       · exact h)
     obtain ⟨A',c',w',h1,h2,h3⟩ := copy_empty 36 36 Tryz.underlying36 wr _ b HI.out.2.2.1 (by have := HI.out.2.2.2.2.1.2; omega)
     have H1 := Lib.hid h1
     have H2 : Hid (OwnI w.heap.size w' (.slice A' b.length c') b) := Lib.hid (owns_base h2 (Nat.le_trans HB.out.size HI.out.2.2.2.2.2.size))
     have H3 : Hid (Below w.heap.size w w') := Lib.hid (by
       have h5 := HB.out.trans (HI.out.2.2.2.2.2.mono HB.out.size)
       exact h5.trans (h3.mono h5.size))
     clear h1 h2 h3
     go_wp2_with ((with_reducible refine wpList_sel 42 ?_); refine wpList_val rfl (r_app (.tmp 40) (.tmp 41) 36 rfl rfl rfl H1.out) ?_)
     go_ret
     have := HBR.out
     subst this
     exact ⟨_,_,rfl,H2.out,H3.out⟩
end Go.Proofs
namespace Go.Proofs
open Go.RowKit Go.Shelf Go.Lib Go.Sort Go.Proofs.Ct Go.Proofs.Tz
shelf_lay_g SlLaysF.n6 Slsf 6 at Tryz 93 as Tryz.sortW
def encV (vals : List Value) (i : Nat) : Value := vals.getD i (.slice none 0 0)
def cfW (xs : List (List Int)) (i j : Nat) : Int := cmpW (xs.getD i []) (xs.getD j [])
theorem swoW (xs : List (List Int)) : SWO (ltOf (cfW xs)) where
 irrefl i := by
   unfold ltOf cfW
   rw [cmpW_zero.2 rfl]
   rfl
 trans i j k h1 h2 := by
   unfold ltOf cfW at *
   rw [decide_eq_true_iff] at *
   exact cmpW_trans h1 h2
 ntrans i j k h1 h2 := by
   unfold ltOf cfW at *
   rw [decide_eq_false_iff_not] at *
   generalize xs.getD i [] = a at *
   generalize xs.getD j [] = b at *
   generalize xs.getD k [] = c at *
   intro h3
   have s1 := cmpW_swap a b
   have s2 := cmpW_swap b c
   rcases Int.lt_or_eq_of_le (show cmpW b a <= 0 by omega) with q1 | q1
   · have := cmpW_trans q1 h3
     omega
   · have e := cmpW_zero.1 q1
     subst e
     omega
theorem heap_sorted1 {α : Type} [Inhabited α] {enc : α -> Value} {w : World} {g n : Nat} {os : Array Obj} {cur : Array Value} {e : TypeId} {fr : Nat × Nat} (F : Array α) (hb : w.heap[g]? = some (.cells cur e fr)) :
   (sortWorld enc w g 0 n F os).heap[g]? = some (.cells (putCells enc 0 F cur) e fr) := by
 have hg : g < w.heap.size := (Array.getElem?_eq_some_iff.1 hb).1
 unfold sortWorld
 rw [heap_grow_old _ _ (by simpa using hg)]
 simp [putRow,mapBlock,Sort.ahead,Array.getElem?_modify,hb,onCells]
theorem grownBy_sorted1 {α : Type} [Inhabited α] {enc : α -> Value} {w : World} {g n : Nat} {os : Array Obj} (F : Array α) : w.grownBy (sortWorld enc w g 0 n F os) (some g) := by
 refine ⟨rfl,rfl,rfl,by simp [sortWorld],fun k hk hne => ?_⟩
 unfold sortWorld
 rw [heap_grow_old _ _ (by simpa using hk)]
 have : g ≠ k := fun e => hne (by rw [e])
 simp [putRow,mapBlock,Sort.ahead,Array.getElem?_modify,this]
theorem cmpLays46 {F : Nat -> Prop} {w : World} {g : Nat} {vals : List Value} {xs : List (List Int)} (hr : RowsF F w vals xs) (hF : ∀ k,F k -> k < w.heap.size /\ k ≠ g) (hm : ∀ x ∈ xs, ∀ z ∈ x,Mild z) (size : Nat) : CmpLays1 Tryz.prog 52 #[] (encV vals) (cfW xs) g 0 size w := by
 intro m os dk _ i j
 have hI : ∀ i,IntsAt (sortWorld (encV vals) w g 0 m dk os) (encV vals i) (xs.getD i []) /\ ∀ z ∈ xs.getD i [],Mild z := by
   intro i
   rcases Nat.lt_or_ge i xs.length with hl | hl
   · obtain ⟨u,hu,hx⟩ := hr.2 i hl
     refine ⟨?_,fun z hz => hm _ ?_ z hz⟩
     · unfold encV
       rw [List.getD_eq_getElem?_getD,hu]
       exact hx _ (Ag.grown (grownBy_sorted1 dk) fun k hk => ⟨(hF k hk).1,fun e => (hF k hk).2 (Option.some.inj e).symm⟩)
     · rw [List.getD_eq_getElem?_getD,List.getElem?_eq_getElem hl]
       exact List.getElem_mem hl
   · have e1 : xs.getD i [] = [] := by rw [List.getD_eq_getElem?_getD,List.getElem?_eq_none hl]; rfl
     have e2 : encV vals i = .slice none 0 0 := by unfold encV; rw [List.getD_eq_getElem?_getD,List.getElem?_eq_none (by rw [hr.1]; exact hl)]; rfl
     rw [e1,e2]
     exact ⟨⟨⟨none,0,0,rfl,rfl,Nat.le_refl _,by simp [maxLen],fun h => absurd h (by simp)⟩,fun z hz => by cases hz⟩,fun z hz => by cases hz⟩
 refine (cmp46_any _ _ _ _ _ (hI i).1 (hI j).1 (hI i).2 (hI j).2).mono ?_
 rintro e w' ⟨h1,q,os',h2⟩
 exact ⟨h1,q,os',h2⟩
theorem range_perm {n : Nat} {d : Array Nat} (h : PermIn 0 (Array.range n).size (Array.range n) d) : d.toList.Perm (List.range n) := by
 obtain ⟨h1, -,h3⟩ := h
 have e1 : (d.extract 0 (Array.range n).size).toList = d.toList := by rw [<- h1,Array.extract_size]
 have e2 : ((Array.range n).extract 0 (Array.range n).size).toList = List.range n := by simp
 rw [e1,e2] at h3
 exact h3
theorem map_range_getD (xs : List (List Int)) : (List.range xs.length).map (fun i => xs.getD i []) = xs := by
 apply List.ext_getElem (by simp)
 intro i h1 h2
 simp [List.getD_eq_getElem?_getD,h2]
def Sorted (xs : List (List Int)) : Prop := xs.Pairwise fun a b => ¬ cmpW b a < 0
theorem sort63_some (base : Nat) (F : Nat -> Prop) (w : World) (v : Value) (xs : List (List Int)) (h : OwnT 36 base F w v xs) (hn : xs ≠ []) (hF : ∀ k,F k -> k < w.heap.size /\ v.ownBlock ≠ some k) (hm : ∀ x ∈ xs, ∀ z ∈ x,Mild z) (hl : xs.length <= 1000000) :
   Calls Tryz.prog 93 #[v, .func (.func 52) #[] #[]] w fun e w' => e = .returned (.tuple #[]) /\ ∃ ys,ys.Perm xs /\ Sorted ys /\ OwnT 36 base F w' v ys /\ w.grownBy w' v.ownBlock := by
 obtain ⟨vals,⟨hlen,ho⟩,hr⟩ := h
 rcases ho with ⟨-,e⟩ | ⟨g,cap,cur,rfl,hb,hC,h1,hmx,hs,ht⟩
 · exact absurd (List.eq_nil_of_length_eq_zero e) hn
 · have hg : g < w.heap.size := (Array.getElem?_eq_some_iff.1 hC).1
   have eg : ∀ args w,(callFunc 52 args).run Tryz.prog w = .ok (.enter 52 args) w := enters_of Tryz.func52 (by kernel_rfl) rfl
   have hvl : vals.length = xs.length := hr.1
   simp only [Nat.mul_one] at hs ht
   have hF' : ∀ k,F k -> k < w.heap.size /\ k ≠ g := fun k hk => ⟨(hF k hk).1,fun e => (hF k hk).2 (by subst e; rfl)⟩
   have hcell : ∀ j,j < xs.length -> cur[j]? = some (encV vals j) := fun j hj => by
     have h5 : (cur.toList.take xs.length)[j]? = vals[j]? := by rw [ht]
     rw [List.getElem?_take,if_pos hj,Array.getElem?_toList,List.getElem?_eq_getElem (show j < vals.length by omega)] at h5
     rw [h5]
     unfold encV
     rw [List.getD_eq_getElem?_getD,List.getElem?_eq_getElem (show j < vals.length by omega)]
     rfl
   have hH : Holds (encV vals) w g 0 (Array.range xs.length) := by
     intro j hj
     have hj' : j < xs.length := by simpa using hj
     refine ⟨?_,by simp [World.frozen?,hC]⟩
     rw [Nat.zero_add,cell_of_row _ _ _ _ _ _ hC,hcell j hj']
     simp [hj']
   have h1c : OneCell (encV vals) := fun i => by
     rcases Nat.lt_or_ge i xs.length with hi | hi
     · obtain ⟨u,hu,hx⟩ := hr.2 i hi
       obtain ⟨A,c,rfl, -⟩ := hx.at_.open_
       unfold encV
       rw [List.getD_eq_getElem?_getD,hu]
       rfl
     · unfold encV
       rw [List.getD_eq_getElem?_getD,List.getElem?_eq_none (by omega)]
       rfl
   have hcon := Any.slices_SortFunc Tryz.sortW (encV vals) h1c (cfW xs) (swoW xs) 52 #[] g 0 cap (Array.range xs.length) w eg (cmpLays46 hr hF' hm _) hH hg (by simp; omega)
   have hcon2 : Calls Tryz.prog 93 #[.slice (some ⟨g,0,none⟩) (Array.range xs.length).size cap, .func (.func 52) #[] #[]] w _ := hcon
   rw [Array.size_range] at hcon2
   refine hcon2.mono ?_
   rintro e w' ⟨rfl,d',n,os,hp,hsd,rfl⟩
   have hpr := range_perm (by simpa using hp)
   have hdl : d'.toList.length = xs.length := by rw [hpr.length_eq]; simp
   have hds : d'.size = xs.length := by simpa using hdl
   have hmem : ∀ i ∈ d'.toList,i < xs.length := fun i hi => by simpa using hpr.mem_iff.1 hi
   refine ⟨rfl,d'.toList.map (fun i => xs.getD i []), ?_, ?_, ?_,grownBy_sorted1 _⟩
   · have := hpr.map (fun i => xs.getD i [])
     rw [map_range_getD] at this
     exact this
   · unfold Sorted
     rw [List.pairwise_map,List.pairwise_iff_getElem]
     intro i j hi hj hij
     have hi' : i < d'.size := by simpa using hi
     have hj' : j < d'.size := by simpa using hj
     have h4 := hsd i j (Nat.zero_le _) hij (by omega)
     rw [getElem!_pos d' i hi',getElem!_pos d' j hj'] at h4
     have h5 : d'.toList[i] = d'[i] := by simp
     have h6 : d'.toList[j] = d'[j] := by simp
     rw [h5,h6]
     exact of_decide_eq_false h4
   · have hml : (d'.toList.map (fun i => xs.getD i [])).length = xs.length := by rw [List.length_map,hdl]
     refine ⟨d'.toList.map (encV vals),⟨by rw [hml,List.length_map,hdl]; omega, .inr ⟨g,cap,putCells (encV vals) 0 d' cur,by rw [hml],hb,heap_sorted1 _ hC,by rw [hml]; exact h1,hmx,by simp [putCells,hs], ?_⟩⟩,by simp, ?_⟩
     · rw [hml,Nat.mul_one]
       apply List.ext_getElem?
       intro j
       by_cases hj : j < xs.length
       · have hjc : j < cur.size := by omega
         rw [List.getElem?_take,if_pos hj,Array.getElem?_toList]
         simp [putCells,hds,hj,hjc]
       · rw [List.getElem?_take_eq_none (by omega),List.getElem?_eq_none (by simp; omega)]
     · intro j hj
       rw [hml] at hj
       have hjd : j < d'.toList.length := by omega
       obtain ⟨u,hu,hx⟩ := hr.2 (d'.toList[j]) (hmem _ (List.getElem_mem hjd))
       refine ⟨u, ?_, ?_⟩
       · rw [List.getElem?_map,List.getElem?_eq_getElem hjd]
         simp only [Option.map_some]
         unfold encV
         rw [List.getD_eq_getElem?_getD,hu]
         rfl
       · rw [show (d'.toList.map (fun i => xs.getD i [])).getD j [] = xs.getD (d'.toList[j]) [] by rw [List.getD_eq_getElem?_getD,List.getElem?_map,List.getElem?_eq_getElem hjd]; rfl]
         exact hx.keep (Ag.grown (grownBy_sorted1 d') fun k hk => ⟨(hF' k hk).1,fun e => (hF' k hk).2 (Option.some.inj e).symm⟩)
end Go.Proofs
namespace Go.Proofs
open Go.RowKit Go.Shelf Go.Lib Go.Sort Go.Proofs.Ct Go.Proofs.Tz
theorem insertion78_nil (w : World) (A : Option Addr) (c : Nat) : Calls Tryz.prog 132 #[.slice A 0 c, .int .i64 0, .int .i64 0, .func (.func 52) #[] #[]] w fun e w' => e = .returned (.tuple #[]) /\ ∃ q,w' = w.drewN q := by
 go_enter Tryz.func132,Tryz.ntmps132
 go_wp2_with fail
 go_loopw [8] (fun z wr => z = .int .i64 1 /\ ∃ q,wr = w.drewN q) (fun _ _ => 0)
 case atStart => exact ⟨rfl,0,rfl⟩
 case round =>
   obtain ⟨rfl,q,rfl⟩ := hrel
   go_wp2_with fail
   go_end0
   exact ⟨rfl,_,rfl⟩
theorem pdq74_nil (w : World) (A : Option Addr) (c : Nat) : Calls Tryz.prog 121 #[.slice A 0 c, .int .i64 0, .int .i64 0, .int .i64 0, .func (.func 52) #[] #[]] w fun e w' => e = .returned (.tuple #[]) /\ ∃ q,w' = w.drewN q := by
 have HI := Lib.hid fun W => insertion78_nil W A c
 go_enter Tryz.func121,Tryz.ntmps121
 go_wp2_with fail
 go_loopw [1,2] (fun za zb wr => za = .int .i64 0 /\ zb = .int .i64 0 /\ ∃ q,wr = w.drewN q) (fun _ _ _ => 0)
 case atStart => exact ⟨rfl,rfl,0,rfl⟩
 case round =>
   obtain ⟨rfl,rfl,q,rfl⟩ := hrel
   go_wp2_with (go_at_call 132; (refine (HI.out _).mono ?_); rintro e w' ⟨rfl,q,rfl⟩)
   exact bodyPost_ret (v := .tuple #[]) (results_none rfl _ _ _) rfl ⟨rfl,by first | exact ⟨_,rfl⟩ | exact ex_drewN⟩
theorem sort63_nil (w : World) (A : Option Addr) (c : Nat) : Calls Tryz.prog 93 #[.slice A 0 c, .func (.func 52) #[] #[]] w fun e w' => e = .returned (.tuple #[]) /\ ∃ q,w' = w.drewN q := by
 have hb : Calls Tryz.prog 122 #[.int .u64 0] w fun e w' => e = .returned (.int .i64 0) /\ w' = w := Any.bits_Len (SlLaysF0.n15.bits (P := Tryz.prog) (ρ := Tryz.sortW_ren) { Tryz.sortW with }) 0 w (by omega) (by omega)
 have HB := Lib.hid hb
 have HP := Lib.hid fun W => pdq74_nil W A c
 clear hb
 go_enter Tryz.func93,Tryz.ntmps93
 go_wp2_with (first
   | (go_at_call 122; (refine HB.out.mono ?_); rintro e w' ⟨rfl,rfl⟩)
   | (go_at_call 121; (refine (HP.out _).mono ?_); rintro e w' ⟨rfl,q,rfl⟩))
 go_end0
 exact ⟨rfl,_,rfl⟩
theorem grownBy_drewN {w : World} (q : Nat) (r : Option Nat) : w.grownBy (w.drewN q) r := ⟨rfl,rfl,rfl,Nat.le_refl _,fun _ _ _ => rfl⟩
theorem sort63_any (base : Nat) (F : Nat -> Prop) (w : World) (A : Option Addr) (c : Nat) (xs : List (List Int)) (h : OwnT 36 base F w (.slice A xs.length c) xs) (hF : ∀ k,F k -> k < w.heap.size /\ (Value.slice A xs.length c).ownBlock ≠ some k) (hm : ∀ x ∈ xs, ∀ z ∈ x,Mild z) (hl : xs.length <= 1000000) :
   Calls Tryz.prog 93 #[.slice A xs.length c, .func (.func 52) #[] #[]] w fun e w' => e = .returned (.tuple #[]) /\ ∃ ys,ys.Perm xs /\ Sorted ys /\ OwnT 36 base F w' (.slice A xs.length c) ys /\ w.grownBy w' (Value.slice A xs.length c).ownBlock := by
 by_cases hn : xs = []
 · subst hn
   obtain ⟨vals,⟨hlen,ho⟩,hr⟩ := h
   refine (sort63_nil w A c).mono fun e w' ⟨h1,q,h2⟩ => ⟨h1, [],List.Perm.refl _,List.Pairwise.nil,⟨vals,⟨hlen, ?_⟩, ?_⟩, ?_⟩
   · rw [h2]; exact ho
   · rw [h2]; exact hr.keep (fun _ _ => rfl) fun _ h => h
   · rw [h2]; exact grownBy_drewN _ _
 · exact sort63_some base F w _ xs h hn hF hm hl
theorem equal47_any (w : World) (va vb : Value) (x y : List Int) (ha : IntsAt w va x) (hb : IntsAt w vb y) :
   Calls Tryz.prog 53 #[va,vb] w fun e w' => e = .returned (.bool (decide (x = y))) /\ ∃ q,w' = w.drewN q := by
 have HE := Lib.hid (equal143_any w va vb x y ha hb)
 obtain ⟨A,c,rfl, -, -, -⟩ := ha.open_
 obtain ⟨B,d,rfl, -, -, -⟩ := hb.open_
 clear ha hb
 generalize decide (x = y) = t at *
 go_enter Tryz.func53,Tryz.ntmps53
 go_wp2_with (go_at_call 99; (refine HE.out.mono ?_); rintro e w' ⟨rfl,q,rfl⟩)
 go_ret
 exact ⟨rfl,_,rfl⟩
end Go.Proofs
namespace Go.Proofs
open Go.RowKit Go.Shelf Go.Lib Go.Sort Go.Proofs.Ct Go.Proofs.Tz
theorem compactL_snoc : ∀ (l : List (List Int)) (x : List Int),compactL (l ++ [x]) = if l.getLast? = some x then compactL l else compactL l ++ [x]
 | [],x => by simp [compactL]
 | [y],x => by
   by_cases h : y = x
   · subst h; simp [compactL]
   · simp [compactL,h]
 | y :: z :: l,x => by
   have ih := compactL_snoc (z :: l) x
   have e : (y :: z :: l).getLast? = (z :: l).getLast? := by simp [List.getLast?_cons_cons]
   rw [e]
   show compactL (y :: z :: (l ++ [x])) = _
   unfold compactL
   by_cases h : y = z
   · rw [if_pos h,if_pos h]; exact ih
   · rw [if_neg h,if_neg h]
     have ih' : compactL (z :: (l ++ [x])) = _ := ih
     rw [ih']
     split <;> simp
theorem compact_take {xs : List (List Int)} {m : Nat} (h1 : 1 <= m) (h2 : m < xs.length) : compactL (xs.take (m + 1)) = if xs.getD m [] = xs.getD (m - 1) [] then compactL (xs.take m) else compactL (xs.take m) ++ [xs.getD m []] := by
 rw [List.take_succ_eq_append_getElem h2,compactL_snoc]
 have e1 : xs.getD m [] = xs[m] := by simp [List.getD_eq_getElem?_getD,h2]
 have e2 : (xs.take m).getLast? = some (xs.getD (m - 1) []) := by
   rw [List.getLast?_eq_getElem?,List.length_take,List.getElem?_take,if_pos (by omega),Nat.min_eq_left (by omega),List.getElem?_eq_getElem (show m - 1 < xs.length by omega)]
   simp [List.getD_eq_getElem?_getD,show m - 1 < xs.length by omega]
 rw [e1,e2]
 by_cases h : xs[m] = xs.getD (m - 1) []
 · rw [if_pos h,if_pos (by rw [h])]
 · rw [if_neg h,if_neg (fun e => h (Option.some.inj e).symm)]
theorem RowsF.take {F : Nat -> Prop} {w : World} {vals : List Value} {xs : List (List Int)} (h : RowsF F w vals xs) (k : Nat) : RowsF F w (vals.take k) (xs.take k) := by
 refine ⟨by rw [List.length_take,List.length_take,h.1],fun j hj => ?_⟩
 rw [List.length_take] at hj
 obtain ⟨u,h1,h2⟩ := h.2 j (by omega)
 exact ⟨u,by rw [List.getElem?_take,if_pos (by omega)]; exact h1,by rw [show (xs.take k).getD j [] = xs.getD j [] by simp [List.getD_eq_getElem?_getD,show j < k by omega]]; exact h2⟩
structure CpS (F : Nat -> Prop) (w : World) (g n : Nat) (cur : Array Value) (xs : List (List Int)) (m : Nat) (W : World) (k : Nat) : Prop where
 gb : w.grownBy W (some g)
 row : ∃ C,W.heap[g]? = some (.cells C 36 (0,0)) /\ C.size = cur.size /\ RowsF F W (C.toList.take k) (compactL (xs.take m)) /\ ∀ j,m - 1 <= j -> j < n -> C[j]? = cur[j]?
 len : (compactL (xs.take m)).length = k
structure CpB (F : Nat -> Prop) (w : World) (g : Nat) (cur : Array Value) (xs : List (List Int)) : Prop where
 row : w.heap[g]? = some (.cells cur 36 (0,0))
 size : xs.length <= cur.size
 rows : RowsF F w (cur.toList.take xs.length) xs
 fs : ∀ k,F k -> k < w.heap.size /\ k ≠ g
theorem CpB.ag {F : Nat -> Prop} {w W : World} {g : Nat} {cur : Array Value} {xs : List (List Int)} (h : CpB F w g cur xs) (hg : w.grownBy W (some g)) : Ag F w W := Ag.grown hg fun k hk => ⟨(h.fs k hk).1,fun e => (h.fs k hk).2 (Option.some.inj e).symm⟩
theorem CpB.at_ {F : Nat -> Prop} {w : World} {g : Nat} {cur : Array Value} {xs : List (List Int)} (h : CpB F w g cur xs) {j : Nat} (hj : j < xs.length) : ∃ u,cur[j]? = some u /\ IntsF F w u (xs.getD j []) := by
 obtain ⟨u,h1,h2⟩ := h.rows.2 j hj
 rw [List.getElem?_take,if_pos hj,Array.getElem?_toList] at h1
 exact ⟨u,h1,h2⟩
theorem CpS.at_ {F : Nat -> Prop} {w W : World} {g m k : Nat} {cur : Array Value} {xs : List (List Int)} (hB : CpB F w g cur xs) (h : CpS F w g xs.length cur xs m W k) {j : Nat} (h1 : m - 1 <= j) (h2 : j < xs.length) : ∃ u,cur[j]? = some u /\ W.cell? ⟨g,j,none⟩ = some u /\ IntsF F W u (xs.getD j []) := by
 obtain ⟨u,hu,hx⟩ := hB.at_ h2
 obtain ⟨C,hC, -, -,hc⟩ := h.row
 exact ⟨u,hu,by rw [cell_of_row _ _ _ _ _ _ hC,hc j h1 h2,hu],hx.keep (hB.ag h.gb)⟩
theorem CpB.start {F : Nat -> Prop} {w : World} {g : Nat} {cur : Array Value} {xs : List (List Int)} (hB : CpB F w g cur xs) (q : Nat) {K : Nat} (h1 : 1 <= K) (h2 : K < xs.length) (he : xs.getD K [] = xs.getD (K - 1) []) (hz : compactL (xs.take K) = xs.take K) : CpS F w g xs.length cur xs (K + 1) (w.drewN q) K := by
 have e : compactL (xs.take (K + 1)) = xs.take K := by rw [compact_take h1 h2,if_pos he,hz]
 refine ⟨grownBy_drewN _ _,⟨cur,hB.row,rfl, ?_,fun _ _ _ => rfl⟩,by rw [e,List.length_take]; omega⟩
 rw [e]
 have := hB.rows.take K
 rw [List.take_take,Nat.min_eq_left (by omega)] at this
 exact this.keep (fun _ _ => rfl) fun _ h => h
theorem CpS.drewN {F : Nat -> Prop} {w W : World} {g m k : Nat} {cur : Array Value} {xs : List (List Int)} (h : CpS F w g xs.length cur xs m W k) (q : Nat) : CpS F w g xs.length cur xs m (W.drewN q) k :=
 let ⟨C,h1,h2,h3,h4⟩ := h.row
 ⟨⟨h.gb.os,h.gb.tape,h.gb.output,h.gb.size,h.gb.block⟩,⟨C,h1,h2,h3.keep (fun _ _ => rfl) fun _ h => h,h4⟩,h.len⟩
theorem CpS.skip {F : Nat -> Prop} {w W : World} {g m k : Nat} {cur : Array Value} {xs : List (List Int)} (h : CpS F w g xs.length cur xs m W k) (h1 : 1 <= m) (h2 : m < xs.length) (he : xs.getD m [] = xs.getD (m - 1) []) : CpS F w g xs.length cur xs (m + 1) W k := by
 have e : compactL (xs.take (m + 1)) = compactL (xs.take m) := by rw [compact_take h1 h2,if_pos he]
 obtain ⟨C,c1,c2,c3,c4⟩ := h.row
 exact ⟨h.gb,⟨C,c1,c2,by rw [e]; exact c3,fun j hj hn => c4 j (by omega) hn⟩,by rw [e]; exact h.len⟩
theorem CpS.keep {F : Nat -> Prop} {w W : World} {g m k : Nat} {cur : Array Value} {xs : List (List Int)} {u : Value} (hB : CpB F w g cur xs) (h : CpS F w g xs.length cur xs m W k) (h1 : 1 <= m) (h2 : m < xs.length) (hk : k < m) (he : ¬ xs.getD m [] = xs.getD (m - 1) []) (hu : cur[m]? = some u) :
   CpS F w g xs.length cur xs (m + 1) (W.setCell ⟨g,k,none⟩ u) (k + 1) := by
 have e : compactL (xs.take (m + 1)) = compactL (xs.take m) ++ [xs.getD m []] := by rw [compact_take h1 h2,if_neg he]
 obtain ⟨C,c1,c2,c3,c4⟩ := h.row
 have hgl := (Array.getElem?_eq_some_iff.1 c1).1
 have hsz := hB.size
 have hnew : (W.setCell ⟨g,k,none⟩ u).heap[g]? = some (.cells (C.setIfInBounds k u) 36 (0,0)) := by
   rw [setCell_eq]
   simp [mapBlock,Array.getElem?_modify,c1,onCells]
 have hgb : W.grownBy (W.setCell ⟨g,k,none⟩ u) (some g) := by
   refine ⟨rfl,rfl,rfl,by simp [World.setCell],fun r hr hne => ?_⟩
   exact Below.heap_setCell W ⟨g,k,none⟩ _ r (fun e => hne (by rw [e]))
 have hag : Ag F W (W.setCell ⟨g,k,none⟩ u) := Ag.grown hgb fun r hr => ⟨Nat.lt_of_lt_of_le (hB.fs r hr).1 h.gb.size,fun e => (hB.fs r hr).2 (Option.some.inj e).symm⟩
 obtain ⟨u',hu', -,hx⟩ := h.at_ hB (j := m) (by omega) h2
 obtain rfl : u' = u := by rw [hu] at hu'; exact (Option.some.inj hu').symm
 refine ⟨⟨h.gb.os,h.gb.tape,h.gb.output,Nat.le_trans h.gb.size hgb.size,fun r hr hne => (hgb.block r (Nat.lt_of_lt_of_le hr h.gb.size) hne).trans (h.gb.block r hr hne)⟩,⟨_,hnew,by simp [c2], ?_,fun j hj hn => ?_⟩,by rw [e,List.length_append,h.len]; rfl⟩
 · rw [e]
   have hkC : k < C.size := by omega
   have : (C.setIfInBounds k u').toList.take (k + 1) = C.toList.take k ++ [u'] := by
     apply List.ext_getElem?
     intro j
     rw [List.getElem?_take,Array.getElem?_toList,Array.getElem?_setIfInBounds]
     rcases Nat.lt_trichotomy j k with hj | hj | hj
     · rw [if_pos (by omega),if_neg (by omega),List.getElem?_append_left (by rw [List.length_take,Array.length_toList]; omega),List.getElem?_take,if_pos hj,Array.getElem?_toList]
     · subst hj
       rw [if_pos (by omega),if_pos rfl,if_pos hkC,List.getElem?_append_right (by rw [List.length_take]; omega),List.length_take,Array.length_toList,Nat.min_eq_left (by omega),Nat.sub_self]
       rfl
     · rw [if_neg (by omega),List.getElem?_eq_none (by rw [List.length_append,List.length_take,List.length_singleton]; omega)]
   rw [this]
   exact (c3.keep hag fun _ h => h).snoc (hx.keep hag)
 · rw [Array.getElem?_setIfInBounds,if_neg (by omega)]
   exact c4 j (by omega) hn
theorem zero24w (w : World) : (zeroValue 36).run Tryz.prog w = .ok (.slice none 0 0) w := by kernel_rfl
theorem grown_setCells (g : Nat) : ∀ (l : List Value) (i : Nat) (W : World),W.grownBy (W.setCells g i l) (some g)
 | [],i,W => ⟨rfl,rfl,rfl,Nat.le_refl _,fun _ _ _ => rfl⟩
 | v :: l,i,W => by
   have h2 : W.grownBy (W.setCell ⟨g,i,none⟩ v) (some g) := ⟨rfl,rfl,rfl,by simp [World.setCell],fun r _ hne => Below.heap_setCell W ⟨g,i,none⟩ _ r (fun e => hne (by rw [e]))⟩
   have h1 := grown_setCells g l (i + 1) (W.setCell ⟨g,i,none⟩ v)
   exact ⟨h1.os.trans h2.os,h1.tape.trans h2.tape,h1.output.trans h2.output,Nat.le_trans h2.size h1.size,fun r hr hne => (h1.block r (Nat.lt_of_lt_of_le hr h2.size) hne).trans (h2.block r hr hne)⟩
theorem heap_setCells (g : Nat) : ∀ (l : List Value) (i : Nat) (W : World) (C : Array Value),W.heap[g]? = some (.cells C 36 (0,0)) -> ∃ C',(W.setCells g i l).heap[g]? = some (.cells C' 36 (0,0)) /\ C'.size = C.size /\ ∀ j,j < i -> C'[j]? = C[j]?
 | [],i,W,C,h => ⟨C,h,rfl,fun _ _ => rfl⟩
 | v :: l,i,W,C,h => by
   have hgl := (Array.getElem?_eq_some_iff.1 h).1
   have hnew : (W.setCell ⟨g,i,none⟩ v).heap[g]? = some (.cells (C.setIfInBounds i v) 36 (0,0)) := by
     rw [setCell_eq]
     simp [mapBlock,Array.getElem?_modify,h,onCells]
   obtain ⟨C',h1,h2,h3⟩ := heap_setCells g l (i + 1) _ _ hnew
   exact ⟨C',h1,by rw [h2]; simp,fun j hj => by rw [h3 j (by omega),Array.getElem?_setIfInBounds,if_neg (by omega)]⟩
theorem CpS.done {F : Nat -> Prop} {w W : World} {g k base cap : Nat} {cur : Array Value} {xs : List (List Int)} (hB : CpB F w g cur xs) (h : CpS F w g xs.length cur xs xs.length W k) (hb : base <= g) (hc : cur.size = cap) (hm : cap <= maxLen) (hk : k <= xs.length) :
   OwnT 36 base F (W.setCells g k (List.replicate (xs.length - k) (.slice none 0 0))) (.slice (some ⟨g,0,none⟩) k cap) (compactL xs) /\ w.grownBy (W.setCells g k (List.replicate (xs.length - k) (.slice none 0 0))) (some g) /\ (compactL xs).length = k := by
 obtain ⟨C,c1,c2,c3, -⟩ := h.row
 have hl := h.len
 rw [List.take_length] at hl c3
 have hsz := hB.size
 have g1 := grown_setCells g (List.replicate (xs.length - k) (.slice none 0 0)) k W
 obtain ⟨C',d1,d2,d3⟩ := heap_setCells g (List.replicate (xs.length - k) (.slice none 0 0)) k W C c1
 have hag : Ag F W (W.setCells g k (List.replicate (xs.length - k) (.slice none 0 0))) := Ag.grown g1 fun r hr => ⟨Nat.lt_of_lt_of_le (hB.fs r hr).1 h.gb.size,fun e => (hB.fs r hr).2 (Option.some.inj e).symm⟩
 refine ⟨⟨C'.toList.take k,⟨?_, .inr ⟨g,cap,C',by rw [hl],hb,d1,by rw [hl]; omega,hm,by omega,by rw [hl,Nat.mul_one]⟩⟩, ?_⟩,⟨g1.os.trans h.gb.os,g1.tape.trans h.gb.tape,g1.output.trans h.gb.output,Nat.le_trans h.gb.size g1.size,fun r hr hne => (g1.block r (Nat.lt_of_lt_of_le hr h.gb.size) hne).trans (h.gb.block r hr hne)⟩,hl⟩
 · rw [hl,List.length_take,Array.length_toList]; omega
 · have e : C'.toList.take k = C.toList.take k := by
     apply List.ext_getElem?
     intro j
     rw [List.getElem?_take,List.getElem?_take]
     split
     · rw [Array.getElem?_toList,Array.getElem?_toList]; exact d3 j (by omega)
     · rfl
   rw [e]
   exact c3.keep hag fun _ h => h
end Go.Proofs
namespace Go.Proofs
open Go.RowKit Go.Shelf Go.Lib Go.Sort Go.Proofs.Ct Go.Proofs.Tz
theorem quiet_more {P : Program} {f : FuncId} {args : Array Value} {w : World} {a n : Nat} {v : Value}
   (h : Calls P f args (w.drewN (a + n)) fun e w' => e = .returned v /\ ∃ q,w' = (w.drewN (a + n)).drewN q) :
   Calls P f args (w.drewN (a + n)) fun e w'' => e = .returned v /\ ∃ m,w'' = w.drewN (a + m) :=
 h.mono fun _ _ ⟨he,q,hq⟩ => ⟨he,n + q,by rw [hq,World.drewN_drewN,Nat.add_assoc]⟩
theorem quiet_more0 {P : Program} {f : FuncId} {args : Array Value} {w : World} {n : Nat} {v : Value}
   (h : Calls P f args (w.drewN n) fun e w' => e = .returned v /\ ∃ q,w' = (w.drewN n).drewN q) :
   Calls P f args (w.drewN n) fun e w'' => e = .returned v /\ ∃ m,w'' = w.drewN m :=
 h.mono fun _ _ ⟨he,q,hq⟩ => ⟨he,n + q,by rw [hq,World.drewN_drewN]⟩
theorem CpS.free {F : Nat -> Prop} {w W : World} {g m k n i : Nat} {cur : Array Value} {xs : List (List Int)} (h : CpS F w g n cur xs m W k) (hi : i < cur.size) : (∃ z,W.cell? ⟨g,i,none⟩ = some z) /\ W.frozen? ⟨g,i,none⟩ = false := by
 obtain ⟨C,c1,c2, -, -⟩ := h.row
 exact ⟨⟨C[i],by rw [cell_of_row _ _ _ _ _ _ c1]; simp [c2,hi]⟩,by simp [World.frozen?,c1]⟩
def CompPost (base : Nat) (F : Nat -> Prop) (w : World) (g cap : Nat) (xs : List (List Int)) (e : Ending) (w' : World) : Prop :=
 e = .returned (.slice (some ⟨g,0,none⟩) (compactL xs).length cap) /\ OwnT 36 base F w' (.slice (some ⟨g,0,none⟩) (compactL xs).length cap) (compactL xs) /\ w.grownBy w' (some g)
set_option maxRecDepth 100000 in
set_option maxHeartbeats 4000000 in
theorem compact64_some (base : Nat) (F : Nat -> Prop) (w : World) (g cap : Nat) (cur : Array Value) (xs : List (List Int)) (hB : CpB F w g cur xs) (hb : base <= g) (hc : cur.size = cap) (hm : cap <= maxLen) (hl : xs.length <= 1000000) (h0 : xs.length ≠ 0) :
   Calls Tryz.prog 94 #[.slice (some ⟨g,0,none⟩) xs.length cap, .func (.func 53) #[] #[]] w (CompPost base F w g cap xs) := by
 have eg : ∀ args w,(callFunc 53 args).run Tryz.prog w = .ok (.enter 53 args) w := enters_of Tryz.func53 (by kernel_rfl) rfl
 have HB := Lib.hid hB
 have hcs := hB.size
 have hcap : xs.length <= cap := by omega
 have hcm : (cap : Int) <= 9223372036854775807 := by unfold maxLen at hm; omega
 have hn0 : (0 : Int) <= (xs.length : Int) := Int.natCast_nonneg _
 clear hcs
 by_cases h2 : xs.length < 2
 · have h2' : (xs.length : Int) < 2 := by omega
   have h1 : xs.length = 1 := by omega
   have HE : Hid (compactL xs = xs) := Lib.hid (by
     obtain ⟨x,rfl⟩ := List.length_eq_one_iff.1 h1
     rfl)
   have HR : Hid (CompPost base F w g cap xs (.returned (.slice (some ⟨g,0,none⟩) xs.length cap)) w) := Lib.hid (by
     unfold CompPost
     rw [HE.out]
     exact ⟨rfl,⟨_,⟨by rw [List.length_take,Array.length_toList,Nat.mul_one]; exact Nat.min_eq_left HB.out.size, .inr ⟨g,cap,cur,rfl,hb,HB.out.row,hcap,hm,by omega,by rw [Nat.mul_one]⟩⟩,HB.out.rows⟩,⟨rfl,rfl,rfl,Nat.le_refl _,fun _ _ _ => rfl⟩⟩)
   clear h1
   go_enter Tryz.func94,Tryz.ntmps94
   go_wp2_with fail
   go_ret
   exact HR.out
 · have h2' : ¬ (xs.length : Int) < 2 := by omega
   have hds : decide ((xs.length : Int) < 2) = false := decide_eq_false h2'
   go_enter Tryz.func94,Tryz.ntmps94
   go_wp2_with fail
   go_loopw [5] (fun z wr => ∃ k : Nat,1 <= k /\ k <= xs.length /\ z = .int .i64 k /\ compactL (xs.take k) = xs.take k /\ ∃ q,wr = w.drewN q) (fun z _ => xs.length - (intOf z).toNat)
   case atStart => exact ⟨1,Nat.le_refl _,by omega,rfl,by
     cases xs with
     | nil => exact absurd rfl h0
     | cons x l => rfl,0,rfl⟩
   case round =>
     obtain ⟨k,hk1,hk,rfl,hz,q,rfl⟩ := hrel
     have HZ := Lib.hid hz
     clear hz
     by_cases hlt : k < xs.length
     · obtain ⟨p,hp⟩ : ∃ p,p + 1 = k := ⟨k - 1,by omega⟩
       obtain ⟨u1,hu1,hx1⟩ := HB.out.at_ hlt
       obtain ⟨u2,hu2,hx2⟩ := HB.out.at_ (show p < xs.length by omega)
       have hcell1 : w.cell? ⟨g,k,none⟩ = some u1 := by rw [cell_of_row _ _ _ _ _ _ HB.out.row,hu1]
       have hcell2 : w.cell? ⟨g,p,none⟩ = some u2 := by rw [cell_of_row _ _ _ _ _ _ HB.out.row,hu2]
       have HC := Lib.hid fun W => equal47_any W u1 u2 (xs.getD k []) (xs.getD p [])
       have HX1 := Lib.hid hx1
       have HX2 := Lib.hid hx2
       have HC' : Hid (∀ r,Calls Tryz.prog 53 #[u1,u2] (w.drewN r) fun e w' => e = .returned (.bool (decide (xs.getD k [] = xs.getD p []))) /\ ∃ q,w' = (w.drewN r).drewN q) := Lib.hid fun r => HC.out _ (hx1.at_.drewN r) (hx2.at_.drewN r)
       obtain ⟨A1,c1,rfl, -⟩ := hx1.at_.open_
       obtain ⟨A2,c2,rfl, -⟩ := hx2.at_.open_
       have HP := Lib.hid hp
       have hk1' : (k : Int) - 1 = (p : Int) := by omega
       have hk0 : (0 : Int) <= (k : Int) := Int.natCast_nonneg _
       have hkl : (k : Int) < (xs.length : Int) := by omega
       have hp0 : (0 : Int) <= (p : Int) := Int.natCast_nonneg _
       have hpl : (p : Int) < (xs.length : Int) := by omega
       have hpw : IntKind.i64.wrap (p : Int) = (p : Int) := by simp [IntKind.wrap,IntKind.bits,IntKind.signed]; omega
       clear hx1 hx2 hu1 hu2 hp
       by_cases he : xs.getD k [] = xs.getD p []
       · rw [decide_eq_true he] at HC'
         have HE : Hid (xs.getD k [] = xs.getD (k - 1) []) := Lib.hid (by rw [he,show p = k - 1 by have := HP.out; omega])
         clear he
         generalize (xs.getD k []).length = n1 at *
         generalize (xs.getD p []).length = n2 at *
         go_wp2_with fail
         go_quiet ((go_at_fn 53; first | exact quiet_more (HC'.out _) | exact quiet_more0 (HC'.out _)))
         have hSL : sliced (some ⟨g,0,none⟩) k xs.length cap 1 = .slice (some ⟨g,k,none⟩) (xs.length - k) (cap - k) := by
           unfold sliced
           have : ¬ (cap - k = 0) := by omega
           simp [Addr.add_mid,show ¬ cap = k by omega]
         go_wp2_with ((with_reducible refine wpList_sel 31 ?_); refine wpList_val rfl ((run_sl_lo under25w size25w (.tmp 29) (.tmp 30) _ _ _ k rfl rfl rfl (by omega)).trans (congrArg (fun v => Result.ok (Next.value v) _) hSL)) ?_)
         have HST := Lib.hid fun r => HB.out.start r hk1 hlt HE.out HZ.out
         have HXE := Lib.hid (show p + 1 = k from HP.out)
         clear HC HC' HX1 HX2 hcell1 hcell2 hSL HE HZ
         go_loopw [5,7] (fun zi zj wr => ∃ (i j : Nat),zi = .int .i64 i /\ zj = .int .i64 j /\ 1 <= j /\ k + j <= xs.length /\ i < k + j /\ Hid (CpS F w g xs.length cur xs (k + j) wr i)) (fun _ zj _ => xs.length - k - (intOf zj).toNat)
         case atStart => exact ⟨k,1,rfl,by go_num,Nat.le_refl _,hlt,by omega,Lib.hid (by first | exact HST.out _ | exact (HST.out _).drewN _)⟩
         case round =>
           obtain ⟨i,j,rfl,rfl,hj1,hj,hij,HS⟩ := hrel
           have hi0 : (0 : Int) <= (i : Int) := Int.natCast_nonneg _
           have hj0 : (0 : Int) <= (j : Int) := Int.natCast_nonneg _
           have hsub : ((xs.length - k : Nat) : Int) = (xs.length : Int) - (k : Int) := by omega
           by_cases hjl : k + j < xs.length
           · obtain ⟨t,ht⟩ : ∃ t,t + 1 = j := ⟨j - 1,by omega⟩
             obtain ⟨u1,hu1,hcell1,hx1⟩ := HS.out.at_ HB.out (j := k + j) (by omega) hjl
             obtain ⟨u2,hu2,hcell2,hx2⟩ := HS.out.at_ HB.out (j := k + t) (by omega) (by omega)
             have HU1 := Lib.hid hu1
             have HC : Hid (∀ r,Calls Tryz.prog 53 #[u1,u2] (wr.drewN r) fun e w' => e = .returned (.bool (decide (xs.getD (k + j) [] = xs.getD (k + t) []))) /\ ∃ q,w' = (wr.drewN r).drewN q) := Lib.hid fun r => equal47_any _ u1 u2 _ _ (hx1.at_.drewN r) (hx2.at_.drewN r)
             obtain ⟨A1,c1,rfl, -⟩ := hx1.at_.open_
             obtain ⟨A2,c2,rfl, -⟩ := hx2.at_.open_
             have HT := Lib.hid ht
             have hj1' : (j : Int) - 1 = (t : Int) := by omega
             have ht0 : (0 : Int) <= (t : Int) := Int.natCast_nonneg _
             have hjk : j < xs.length - k := by omega
             have htk : t < xs.length - k := by omega
             have hjk' : (j : Int) < ((xs.length - k : Nat) : Int) := by omega
             have htk' : (t : Int) < ((xs.length - k : Nat) : Int) := by omega
             have htw : IntKind.i64.wrap (t : Int) = (t : Int) := by simp [IntKind.wrap,IntKind.bits,IntKind.signed]; omega
             clear hx1 hx2 hu1 hu2 ht hsub
             generalize (xs.getD (k + j) []).length = n1 at *
             generalize (xs.getD (k + t) []).length = n2 at *
             by_cases he : xs.getD (k + j) [] = xs.getD (k + t) []
             · rw [decide_eq_true he] at HC
               have HN := Lib.hid (HS.out.skip (by omega) hjl (by rw [he,show k + t = k + j - 1 by have := HT.out; omega]))
               clear he
               go_wp2_with fail
               go_quiet ((go_at_fn 53; first | exact quiet_more (HC.out _) | exact quiet_more0 (HC.out _)))
               go_wp2_with fail
               go_roundw
               case rel => exact ⟨i,j + 1,by go_num,by go_num,by omega,by omega,by omega,Lib.hid (by first | exact HN.out | exact HN.out.drewN _)⟩
               case measure => simp [intOf]; omega
             · rw [decide_eq_false he] at HC
               have HN := Lib.hid (HS.out.keep HB.out (by omega) hjl hij (by rw [show k + j - 1 = k + t by have := HT.out; omega]; exact he) HU1.out)
               clear he
               obtain ⟨⟨z,hz⟩,hfz⟩ := HS.out.free (i := i) (by have := HB.out.size; omega)
               have hil : (i : Int) < (xs.length : Int) := by omega
               go_wp2_with fail
               go_quiet ((go_at_fn 53; first | exact quiet_more (HC.out _) | exact quiet_more0 (HC.out _)))
               go_wp2_with fail
               go_roundw
               case rel => exact ⟨i + 1,j + 1,by go_num,by go_num,by omega,by omega,by omega,Lib.hid (by first | exact HN.out | exact HN.out.drewN _)⟩
               case measure => simp [intOf]; omega
           · have hje : k + j = xs.length := by omega
             have HSE : Hid (CpS F w g xs.length cur xs xs.length wr i) := Lib.hid (by rw [<- hje]; exact hje ▸ HS.out)
             have hnlt : ¬ (j : Int) < ((xs.length - k : Nat) : Int) := by omega
             have hcl : ∀ ty,(Builtin.clear_ #[22] ty #[.slice (some ⟨g,i,none⟩) (xs.length - i) (cap - i)]).run Tryz.prog wr = .ok (.tuple #[]) (wr.setCells g i (List.replicate (xs.length - i) (.slice none 0 0))) := fun ty =>
               Lib.run_clear_slice wr _ _ ty _ Tryz.underlying22 zero24w rfl rfl g i _ _ (by omega) (fun t ht => by
                 obtain ⟨⟨z,hz⟩, -⟩ := HSE.out.free (i := i + t) (by have := HB.out.size; omega)
                 rw [hz]; rfl) (fun t ht => (HSE.out.free (i := i + t) (by have := HB.out.size; omega)).2)
             have HD := Lib.hid (HSE.out.done HB.out hb hc hm (by omega))
             have hilt : (i : Int) < (xs.length : Int) := by omega
             have hic : (i : Int) <= (cap : Int) := by omega
             have hcapi : ¬ cap = i := by omega
             clear hsub HS HST
             go_wp2_with fail
             go_ret
             exact ⟨by rw [HD.out.2.2]; rfl,by rw [HD.out.2.2]; exact HD.out.1,HD.out.2.1⟩
       · rw [decide_eq_false he] at HC'
         have HE : Hid (¬ xs.getD k [] = xs.getD (k - 1) []) := Lib.hid (by rw [show k - 1 = p by have := HP.out; omega]; exact he)
         clear he
         generalize (xs.getD k []).length = n1 at *
         generalize (xs.getD p []).length = n2 at *
         go_wp2_with fail
         go_quiet ((go_at_fn 53; first | exact quiet_more (HC'.out _) | exact quiet_more0 (HC'.out _)))
         go_wp2_with fail
         go_roundw
         case rel => exact ⟨k + 1,by omega,by omega,by go_num,by rw [compact_take hk1 hlt,if_neg HE.out,HZ.out,List.take_succ_eq_append_getElem hlt]; simp [List.getD_eq_getElem?_getD,hlt],(by first | exact ⟨_,rfl⟩ | exact ex_drewN)⟩
         case measure => simp [intOf]; omega
     · obtain rfl : k = xs.length := by omega
       have HE : Hid (compactL xs = xs) := Lib.hid (by have := HZ.out; rwa [List.take_length] at this)
       have HR : Hid (∀ r,CompPost base F w g cap xs (.returned (.slice (some ⟨g,0,none⟩) xs.length cap)) (w.drewN r)) := Lib.hid fun r => (by
         unfold CompPost
         rw [HE.out]
         exact ⟨rfl,⟨_,⟨by rw [List.length_take,Array.length_toList,Nat.mul_one]; exact Nat.min_eq_left HB.out.size, .inr ⟨g,cap,cur,rfl,hb,HB.out.row,hcap,hm,by omega,by rw [Nat.mul_one]⟩⟩,HB.out.rows.keep (fun _ _ => rfl) fun _ h => h⟩,grownBy_drewN _ _⟩)
       go_wp2_with fail
       go_ret
       exact HR.out _
theorem ownBlock_len (A : Option Addr) (n m c d : Nat) : (Value.slice A n c).ownBlock = (Value.slice A m d).ownBlock := by cases A <;> rfl
theorem compact64_nil (w : World) (A : Option Addr) (c : Nat) : Calls Tryz.prog 94 #[.slice A 0 c, .func (.func 53) #[] #[]] w fun e w' => e = .returned (.slice A 0 c) /\ w' = w := by
 go_enter Tryz.func94,Tryz.ntmps94
 go_wp2_with fail
 go_ret
 exact ⟨rfl,rfl⟩
def TidyPost (base : Nat) (F : Nat -> Prop) (w : World) (A : Option Addr) (c : Nat) (zs : List (List Int)) (e : Ending) (w' : World) : Prop :=
 e = .returned (.slice A zs.length c) /\ OwnT 36 base F w' (.slice A zs.length c) zs /\ w.grownBy w' (Value.slice A zs.length c).ownBlock
theorem compact64_any (base : Nat) (F : Nat -> Prop) (w : World) (A : Option Addr) (c : Nat) (xs : List (List Int)) (h : OwnT 36 base F w (.slice A xs.length c) xs) (hF : ∀ k,F k -> k < w.heap.size /\ (Value.slice A xs.length c).ownBlock ≠ some k) (hl : xs.length <= 1000000) :
   Calls Tryz.prog 94 #[.slice A xs.length c, .func (.func 53) #[] #[]] w (TidyPost base F w A c (compactL xs)) := by
 by_cases h0 : xs = []
 · subst h0
   refine (compact64_nil w A c).mono fun e w' ⟨h1,h2⟩ => ?_
   rw [h1,h2]
   exact ⟨rfl,h,rfl,rfl,rfl,Nat.le_refl _,fun _ _ _ => rfl⟩
 · have h0' : xs.length ≠ 0 := fun e => h0 (List.eq_nil_of_length_eq_zero e)
   obtain ⟨vals,⟨hlen,ho⟩,hr⟩ := h
   rcases ho with ⟨-,e⟩ | ⟨g,cap,cur,e,hb,hC,h1,hm,hs,ht⟩
   · exact absurd e h0'
   · injection e with e1 _ e3
     subst e1 e3
     rw [Nat.mul_one] at hs ht
     refine (compact64_some base F w g c cur xs ⟨hC,by omega,by rw [ht]; exact hr,fun k hk => ⟨(hF k hk).1,fun e => (hF k hk).2 (by subst e; rfl)⟩⟩ hb hs hm hl h0').mono fun e w' h => h
theorem tidy45_any (base : Nat) (F : Nat -> Prop) (w : World) (A : Option Addr) (c : Nat) (xs : List (List Int)) (h : OwnT 36 base F w (.slice A xs.length c) xs) (hF : ∀ k,F k -> k < w.heap.size /\ (Value.slice A xs.length c).ownBlock ≠ some k) (hm : ∀ x ∈ xs, ∀ z ∈ x,Mild z) (hl : xs.length <= 1000000) :
   Calls Tryz.prog 51 #[.slice A xs.length c, .func (.func 52) #[] #[], .func (.func 53) #[] #[]] w fun e w' => ∃ ys,ys.Perm xs /\ Sorted ys /\ TidyPost base F w A c (compactL ys) e w' := by
 have HS := Lib.hid (sort63_any base F w A c xs h hF hm hl)
 have HF := Lib.hid hF
 clear h hF hm
 go_enter Tryz.func51,Tryz.ntmps51
 go_wp2_with (first
   | (go_at_call 93
      refine HS.out.mono ?_
      rintro e w1 ⟨rfl,ys,hp,hsd,ho,hg⟩
      have HC := Lib.hid (compact64_any base F w1 A c ys (by rw [hp.length_eq]; exact ho) (fun k hk => ⟨Nat.lt_of_lt_of_le (HF.out k hk).1 hg.size,by rw [hp.length_eq]; exact (HF.out k hk).2⟩) (by rw [hp.length_eq]; exact hl))
      rw [hp.length_eq] at HC
      have HG := Lib.hid hg
      have HP := Lib.hid hp
      have HD := Lib.hid hsd
      clear hp hsd ho hg)
   | (go_at_call 94
      refine HC.out.mono ?_
      rintro e w2 ⟨rfl,ho2,hg2⟩))
 go_ret
 refine ⟨ys,HP.out,HD.out,rfl,ho2,⟨hg2.os.trans HG.out.os,hg2.tape.trans HG.out.tape,hg2.output.trans HG.out.output,Nat.le_trans HG.out.size hg2.size,fun k hk hne => ?_⟩⟩
 exact (hg2.block k (Nat.lt_of_lt_of_le hk HG.out.size) hne).trans (HG.out.block k hk (by rw [ownBlock_len A _ (compactL ys).length c c]; exact hne))
end Go.Proofs
