/- (*state).eliminate; One step of a simplification: slices.ContainsFunc over the two ways; Drawn regions: what is kept may speak of the slots. -/
import Derived.Test.YtmmbmhjdnlmedaaGreatSiCS17
namespace Go.Proofs
open Go.RowKit Go.Shelf Go.Lib Go.Sort Go.Proofs.Ct Go.Proofs.Tz Go.Maps
set_option maxRecDepth 100000 in
set_option maxHeartbeats 4000000 in
theorem eliminate29_any (base xb n0 : Nat) (s : Sp) (w : World) (A : Option Addr) (ac : Nat) (B : Option Addr) (bc : Nat) (C : Option Addr) (cc : Nat) (hS : StX base xb s 0 w A ac B bc C cc) (hO : Okay n0 s) (hn0 : n0 <= 16) (hil : ∀ z ∈ s.into,z.length <= 4000) (hb : base <= w.heap.size) : Calls Tryz.prog 43 #[.pointer (some ⟨xb,0,none⟩)] w (El29 base xb s C cc w) := by
 have HS := Lib.hid hS
 have HO := Lib.hid hO
 have HIL := Lib.hid hil
 have HBS := Lib.hid hb
 have hL0 : (0 : Int) <= (s.rels.length : Int) := Int.natCast_nonneg _
 have hL1 : (s.rels.length : Int) <= 100 := by have := hO.cln.many; omega
 have hN0 : (0 : Int) <= (s.n : Int) := Int.natCast_nonneg _
 have hN1 : (s.n : Int) <= 16 := by have := hO.cln.n16; omega
 have HPE : Hid (presE (s.n : Int) s.rels = 0) := Lib.hid (presE_of ⟨hO.cln.n1,hO.cln.n16⟩ hO.cln.many hO.cln.ok hO.cln.len)
 have HBN : Hid (Below w.heap.size w (w.alloc (.cells #[.pointer (some ⟨xb,0,none⟩)] 66))) := Lib.hid ((Below.refl _ _).alloc (Nat.le_refl _) _)
 have hx1 : (w.alloc (.cells #[.pointer (some ⟨xb,0,none⟩)] 66)).cell? ⟨xb,1,none⟩ = some (.slice A s.rels.length ac) := (cells5 (hS.below HBN.out).box).2.1
 have HP1 : Hid ((w.alloc (.cells #[.pointer (some ⟨xb,0,none⟩)] 66)).heap[w.heap.size]? = some (.cells #[.pointer (some ⟨xb,0,none⟩)] 66 (0,0))) := Lib.hid (heap_alloc_new w _)
 have hp1c : (w.alloc (.cells #[.pointer (some ⟨xb,0,none⟩)] 66)).cell? ⟨w.heap.size,0,none⟩ = some (.pointer (some ⟨xb,0,none⟩)) := by rw [cell_of_row _ _ _ _ _ _ HP1.out]; rfl
 clear hS hO hil hb
 go_enter Tryz.func43,Tryz.ntmps43
 go_wp2_with fail
 generalize hw0 : w.alloc (.cells #[.pointer (some ⟨xb,0,none⟩)] 66) = w0 at *
 have HS0 := Lib.hid (HS.out.below HBN.out)
 have HXC : Hid (∀ W,Below w0.heap.size w0 W -> W.cell? ⟨xb,0,none⟩ = some (.int .i64 (s.n : Int)) /\ W.cell? ⟨xb,1,none⟩ = some (.slice A s.rels.length ac) /\ W.cell? ⟨w.heap.size,0,none⟩ = some (.pointer (some ⟨xb,0,none⟩))) := Lib.hid fun W hb => by
   obtain ⟨q0,q1, -⟩ := cells5 (HS0.out.below hb).box
   refine ⟨q0,q1, ?_⟩
   rw [cell_of_row _ _ _ _ _ _ ((hb.block _ (Array.getElem?_eq_some_iff.1 HP1.out).1).trans HP1.out)]
   rfl
 clear hw0 hx1 hp1c
 go_loopw [3,4,15] (fun _ _ z wr => ∃ i : Nat,i <= s.rels.length /\ z = .int .i64 i /\ Hid (∀ a,a < i -> ∀ g,1 <= g -> g <= s.n -> ∃ x,elimE s.n s.rels a g = .inr x) /\ Hid (Below w0.heap.size w0 wr)) (fun _ _ z _ => s.rels.length - (intOf z).toNat)
 case atStart => exact ⟨0,Nat.zero_le _,rfl,Lib.hid fun a ha => absurd ha (by omega),Lib.hid (Below.refl _ _)⟩
 case round =>
   obtain ⟨i,hi,rfl,HDN,HBW⟩ := hrel
   obtain ⟨wo,rfl⟩ : ∃ wo,wo = wr := ⟨_,rfl⟩
   have hi0 : (0 : Int) <= (i : Int) := Int.natCast_nonneg _
   by_cases hlt : i < s.rels.length
   · have hlt' : (i : Int) < (s.rels.length : Int) := by omega
     obtain ⟨q0,q1,q2⟩ := HXC.out wo HBW.out
     go_wp2_with fail
     go_loopw [4] (fun z wr => ∃ g : Nat,g <= s.n /\ z = .int .i64 g /\ Hid (∀ g',g < g' -> g' <= s.n -> ∃ x,elimE s.n s.rels i g' = .inr x) /\ Hid (Below w0.heap.size w0 wr)) (fun z _ => (intOf z).toNat)
     case atStart => exact ⟨s.n,Nat.le_refl _,rfl,Lib.hid fun g' h1 h2 => absurd h1 (by omega),HBW⟩
     case round =>
       clear q0 q1 q2
       obtain ⟨g,hg,rfl,HGN,HBI⟩ := hrel
       have hg0 : (0 : Int) <= (g : Int) := Int.natCast_nonneg _
       have hg16 : (g : Int) <= 16 := by omega
       by_cases hgp : 0 < g
       · have hgp' : (0 : Int) < (g : Int) := by omega
         obtain ⟨q0,q1,q2⟩ := HXC.out wr HBI.out
         have hE := elim6_any wr (.slice A s.rels.length ac) s.n s.rels i g (HS0.out.below HBI.out).rels.tab HPE.out hlt ⟨hgp,hg⟩
         unfold ElimPost at hE
         cases hel : elimE s.n s.rels i g with
         | inr x =>
           rw [hel] at hE
           have HC := Lib.hid hE
           have HEL := Lib.hid hel
           obtain ⟨g1,hg1⟩ : ∃ g1,g = g1 + 1 := ⟨g - 1,by omega⟩
           have hgm : (g : Int) - 1 = (g1 : Int) := by omega
           have hg10 : (0 : Int) <= (g1 : Int) := Int.natCast_nonneg _
           have HG1 := Lib.hid hg1
           have hx0 : (x != 0) = true := by rcases elimE_inr hel with rfl | rfl <;> rfl
           have hx0' : ¬ x = 0 := by rcases elimE_inr hel with rfl | rfl <;> decide
           clear hE hel hg1
           go_wp2_with (go_at_call 9; (refine HC.out.mono ?_); rintro e w2 ⟨rfl,hb2⟩; have HB2 := Lib.hid hb2; clear hb2)
           go_roundw
           case rel =>
             refine ⟨g1,by have := HG1.out; omega,by go_num,Lib.hid fun g' h1 h2 => ?_,Lib.hid ?_⟩
             · by_cases h : g' = g
               · subst h; exact ⟨_,HEL.out⟩
               · exact HGN.out g' (by have := HG1.out; omega) h2
             · exact (HBI.out.trans (HB2.out.mono HBI.out.size)).trans ((((Below.refl _ _).alloc (Nat.le_refl _) _).alloc (by simp) _ : Below w2.heap.size w2 _).mono (HBI.out.trans (HB2.out.mono HBI.out.size)).size)
           case measure => have := HG1.out; simp [intOf]; omega
         | inl q =>
           obtain ⟨l,im⟩ := q
           rw [hel] at hE
           have HC := Lib.hid hE
           have HEL := Lib.hid hel
           obtain ⟨hn2,hcln,himl,himok,him1⟩ := elim_cln HO.out.cln.vld hlt ⟨hgp,hg⟩ hel
           have HIML := Lib.hid himl
           have HIMO := Lib.hid himok
           have HIM1 := Lib.hid him1
           have HFE : Hid (firstE s.n s.rels = some ((l,im),g)) := Lib.hid (firstE_at HDN.out HGN.out hlt ⟨hgp,hg⟩ hel)
           have HXB : Hid (xb < w.heap.size /\ w.heap.size < w0.heap.size) := Lib.hid ⟨(Array.getElem?_eq_some_iff.1 HS.out.box).1,(Array.getElem?_eq_some_iff.1 HP1.out).1⟩
           have HW0R := Lib.hid HBI.out.size
           obtain ⟨X,hXd⟩ : ∃ X : Nat -> Prop,X = XB xb (.slice C s.back.length cc) := ⟨_,rfl⟩
           have hXx : X xb := by rw [hXd]; exact .inl rfl
           have HXLT : Hid (∀ q,X q -> q < w.heap.size) := Lib.hid fun q hq => by rw [hXd] at hq; exact HS.out.xlt q hq
           obtain ⟨g1,hg1⟩ : ∃ g1,g = g1 + 1 := ⟨g - 1,by omega⟩
           have HG1 := Lib.hid hg1
           have HXD := Lib.hid hXd
           clear hE hel himl himok him1 hcln hg1 hXd
           go_upto_region 10 with
             (go_at_call 9; (refine HC.out.mono ?_); rintro e w2 ⟨⟨A5,c5,F5,B5,d5,G5,rfl,h5,h6⟩,hb2⟩
              have HB2 := Lib.hid hb2
              have HT5 : Hid (TabX X w2 (.slice A5 l.length c5) l) := Lib.hid (TabX.new h5 fun q hq => by have := HXLT.out q hq; have := HXB.out; have := HW0R.out; omega)
              have HT6 : Hid (TabX X w2 (.slice B5 im.length d5) im) := Lib.hid (TabX.new h6 fun q hq => by have := HXLT.out q hq; have := HXB.out; have := HW0R.out; omega)
              clear hb2 h5 h6)
           obtain ⟨w3,hw3⟩ : ∃ w3,w3 = (w2.alloc (.cells #[.int .i64 ((s.n : Int) - 1), .slice A5 l.length c5] 24)).alloc (.cells #[.slice B5 im.length d5] 22) := ⟨_,rfl⟩
           rw [<- hw3]
           have hb23 : Below w2.heap.size w2 w3 := by rw [hw3]; exact ((Below.refl _ _).alloc (Nat.le_refl _) _).alloc (by simp) _
           have hk1 : w3.heap[w2.heap.size]? = some (.cells #[.int .i64 ((s.n : Int) - 1), .slice A5 l.length c5] 24 (0,0)) := by rw [hw3]; exact (Below.heap_alloc _ _ _ (by simp)).trans (heap_alloc_new w2 _)
           have hk2 : w3.heap[w2.heap.size + 1]? = some (.cells #[.slice B5 im.length d5] 22 (0,0)) := by
             rw [hw3]
             have := heap_alloc_new (w2.alloc (.cells #[.int .i64 ((s.n : Int) - 1), .slice A5 l.length c5] 24)) (.cells #[.slice B5 im.length d5] 22)
             rwa [World.size_alloc] at this
           have HK1 := Lib.hid hk1
           have HK2 := Lib.hid hk2
           have HB3 : Hid (Below w0.heap.size w0 w3) := Lib.hid ((HBI.out.trans (HB2.out.mono HBI.out.size)).trans (hb23.mono (HBI.out.trans (HB2.out.mono HBI.out.size)).size))
           have HT53 : Hid (TabX X w3 (.slice A5 l.length c5) l) := Lib.hid (HT5.out.keep (AgX.of_below hb23))
           have HT63 : Hid (Tab w3 (.slice B5 im.length d5) im) := Lib.hid (HT6.out.keep (AgX.of_below hb23)).tab
           have HS3 := Lib.hid (HS0.out.below HB3.out)
           have HXL3 : Hid (∀ q,X q -> q < w3.heap.size) := Lib.hid fun q hq => by have := HXLT.out q hq; have := HXB.out; have := HB3.out.size; omega
           have hp1 : w3.heap[w.heap.size]? = some (.cells #[.pointer (some ⟨xb,0,none⟩)] 66 (0,0)) := (HB3.out.block _ (Array.getElem?_eq_some_iff.1 HP1.out).1).trans HP1.out
           have HP3 := Lib.hid hp1
           have hne1 : w.heap.size ≠ xb := by have := HXB.out; omega
           have hne2 : w2.heap.size ≠ xb := ne_type hk1 HS3.out.box (by decide)
           have HPX : Hid (∀ W',w3.grownBy W' (some xb) -> W'.cell? ⟨w.heap.size,0,none⟩ = some (.pointer (some ⟨xb,0,none⟩))) := Lib.hid fun W' hg => by
             have h1 := (hg.block _ (Array.getElem?_eq_some_iff.1 hp1).1 (by simp; omega)).trans hp1
             rw [cell_of_row _ _ _ _ _ _ h1]; rfl
           obtain ⟨O,hOd⟩ : ∃ O,O = sbL im s.into := ⟨_,rfl⟩
           have HOD := Lib.hid hOd
           have H51 : Hid (∀ W',Below w3.heap.size w3 W' -> Calls Tryz.prog 84 #[.slice B s.into.length bc, .pointer (some ⟨w2.heap.size + 1,0,none⟩), .pointer (some ⟨w.heap.size,0,none⟩)] W' fun e w' => ∃ v,e = .returned v /\ (RepX X O w' v /\ W'.grownBy w' (some xb) /\ w'.heap[xb]? = some (.cells #[.int .i64 (s.n : Int), .slice A s.rels.length ac, .slice B s.into.length bc, .slice C s.back.length cc, .int .i64 (repErr O)] 68 (0,0)))) := Lib.hid fun W' hbw => by
             have hS' := HS3.out.below hbw
             have h := apply51_any xb w.heap.size (w2.heap.size + 1) W' B B5 bc d5 s.into im _ _ _ _ X ((hbw.block _ (Array.getElem?_eq_some_iff.1 hp1).1).trans hp1) ((hbw.block _ (Array.getElem?_eq_some_iff.1 hk2).1).trans hk2) hS'.box hS'.into.tab (kept_tab.below HT63.out hbw) hXx (fun q hq => Nat.lt_of_lt_of_le (HXL3.out q hq) hbw.size)
               (by rw [HO.out.il]; omega) (fun j hj => HIL.out _ (getD_mem' hj)) (fun j hj x hx => by
                 have h1 := HO.out.io _ (getD_mem' hj) x hx
                 rw [HIML.out]
                 unfold Mild
                 omega) (fun j y hy => mild_ok (g := s.n - 1) (by omega) (HIMO.out _ (mem_getD hy)) y hy) (fun j => by
                 rcases Nat.lt_or_ge j im.length with hj | hj
                 · exact HIM1.out _ (getD_mem' hj)
                 · rw [List.getD_eq_getElem?_getD,List.getElem?_eq_none hj]; exact Nat.zero_le _)
             rw [<- hOd] at h
             exact h
           clear hw3 hb23 hk1 hk2 hOd HC
           refine (wpIn_wide (n := 3)).1 ?_
           refine wpIn_region_all (by kernel_rfl) 10 rfl (fun i => if i < 9 then some (41 + i) else none) (lex_of (by kernel_rfl))
             (fun ls W' => w3.grownBy W' (some xb) /\ (ls 6 = false -> ls 9 = false -> Below w3.heap.size w3 W') /\ ∃ v2,(if ls 9 = true then RepX X O W' v2 else v2 = .slice B s.into.length bc) /\ W'.heap[xb]? = some (.cells #[.int .i64 (s.n : Int), .slice A s.rels.length ac,v2, .slice C s.back.length cc, .int .i64 (if ls 6 = true then repErr O else 0)] 68 (0,0)))
             (fun i v W' => (([.eq (.pointer (some ⟨xb,0,none⟩)), .eq (.func (.func 84) #[] #[.pointer (some ⟨w2.heap.size + 1,0,none⟩), .pointer (some ⟨w.heap.size,0,none⟩)]), .eq (.pointer (some ⟨xb,0,none⟩)), .eq (.pointer (some ⟨xb,0,none⟩)), .eq (.pointer (some ⟨xb,2,none⟩)), .eq (.slice B s.into.length bc), .rep O, .eq (.pointer (some ⟨xb,0,none⟩)), .eq (.pointer (some ⟨xb,2,none⟩)), .eq undef] : List SlA).getD i (.eq undef)).holds X v W')
             (fun _ w1 w2 => w1.grownBy w2 (some xb)) (dm_inj (by kernel_rfl)) (fun i j v w1 w2 _ _ _ h => SlA.keep hXx h) (dm_lt (n := 66) (by kernel_rfl)) ⟨below_grown (Below.refl w3.heap.size w3).drew,fun _ _ => (Below.refl _ _).drew,_,rfl,HS3.out.box⟩ ?_ ?_
           · intro ls q o a w6 hq ho hS hls hcl hP hpre
             obtain ⟨hS1,hS2,v2,hS3,hS4⟩ := hS
             have hcases : q = 0 \/ q = 1 \/ q = 2 \/ q = 3 \/ q = 4 \/ q = 5 \/ q = 6 \/ q = 7 \/ q = 8 \/ q = 9 := by
               have : q < 10 := hq
               omega
             have hkp : ∀ q,q ≠ 6 -> q ≠ 9 -> (w3.grownBy w6 (some xb) /\ ((fun j => if q = j then true else ls j) 6 = false -> (fun j => if q = j then true else ls j) 9 = false -> Below w3.heap.size w3 w6) /\ ∃ v2,(if (fun j => if q = j then true else ls j) 9 = true then RepX X O w6 v2 else v2 = .slice B s.into.length bc) /\ w6.heap[xb]? = some (.cells #[.int .i64 (s.n : Int), .slice A s.rels.length ac,v2, .slice C s.back.length cc, .int .i64 (if (fun j => if q = j then true else ls j) 6 = true then repErr O else 0)] 68 (0,0))) := fun q h1 h2 => by
               simp only [if_neg h1,if_neg h2]
               exact ⟨hS1,hS2,v2,hS3,hS4⟩
             rcases hcases with rfl | rfl | rfl | rfl | rfl | rfl | rfl | rfl | rfl | rfl
             · obtain rfl := Option.some.inj ho
               exact wpOpIn_of rfl rfl (wpW_val (r_load1 66 agg63 (.tmp 1) ⟨w.heap.size,0,none⟩ rfl (hP.out 1 (dm_out (by kernel_rfl))) (HPX.out _ hS1)) ⟨_,rfl,hkp 0 (by decide) (by decide),World.grownBy.refl _ _,(fun h => by simp at h),rfl⟩)
             · obtain rfl := Option.some.inj ho
               exact wpOpIn_of rfl rfl (wpW_val (r_move (.tmp 8) rfl (hP.out 8 (dm_out (by kernel_rfl)))) ⟨_,rfl,hkp 1 (by decide) (by decide),World.grownBy.refl _ _,(fun h => by simp at h),rfl⟩)
             · obtain rfl := Option.some.inj ho
               exact wpOpIn_of rfl rfl (wpW_val (r_load1 66 agg63 (.tmp 1) ⟨w.heap.size,0,none⟩ rfl (hP.out 1 (dm_out (by kernel_rfl))) (HPX.out _ hS1)) ⟨_,rfl,hkp 2 (by decide) (by decide),World.grownBy.refl _ _,(fun h => by simp at h),rfl⟩)
             · obtain rfl := Option.some.inj ho
               exact wpOpIn_of rfl rfl (wpW_val (r_nil (.tmp 43) _ rfl (hpre ⟨2, .data⟩ (by simp) rfl).2) ⟨_,rfl,hkp 3 (by decide) (by decide),World.grownBy.refl _ _,(fun h => by simp at h),rfl⟩)
             · obtain rfl := Option.some.inj ho
               exact wpOpIn_of rfl rfl (wpW_val (r_fld (.tmp 44) _ rfl (hpre ⟨3, .data⟩ (by simp) rfl).2 (fld65_1 xb _)) ⟨_,rfl,hkp 4 (by decide) (by decide),World.grownBy.refl _ _,(fun h => by simp at h),rfl⟩)
             · obtain rfl := Option.some.inj ho
               have h6 := not_yet hcl 6 rfl ⟨5, .data⟩ (by simp) rfl hls
               have h9 := not_yet hcl 9 rfl ⟨6, .data⟩ (by simp) rfl h6
               rw [if_neg (by rw [h9]; simp)] at hS3
               subst hS3
               exact wpOpIn_of rfl rfl (wpW_val (r_ld25 (.tmp 45) ⟨xb,2,none⟩ rfl (hpre ⟨4, .data⟩ (by simp) rfl).2 (cells5 hS4).2.2.1) ⟨_,rfl,hkp 5 (by decide) (by decide),World.grownBy.refl _ _,(fun h => by simp at h),rfl⟩)
             · obtain rfl := Option.some.inj ho
               have h9 := not_yet hcl 9 rfl ⟨6, .data⟩ (by simp) rfl hls
               rw [if_neg (by rw [h9]; simp)] at hS3
               subst hS3
               have hB6 := hS2 hls h9
               exact wpOpIn_of rfl rfl (wpW_call (r_callv (.tmp 42) (.tmp 46) _ _ _ rfl (hpre ⟨1, .data⟩ (by simp) rfl).2 (hpre ⟨5, .data⟩ (by simp) rfl).2 call51) (H51.out w6 hB6) fun v w7 hR => ⟨v,rfl,⟨grown_trans hS1 hR.2.1,fun h => by simp at h,_,by rw [if_neg (by simp [h9])],by simpa using hR.2.2⟩,hR.2.1,(fun h => by simp at h),hR.1⟩)
             · obtain rfl := Option.some.inj ho
               exact wpOpIn_of rfl rfl (wpW_val (r_nil (.tmp 41) _ rfl (hpre ⟨0, .data⟩ (by simp) rfl).2) ⟨_,rfl,hkp 7 (by decide) (by decide),World.grownBy.refl _ _,(fun h => by simp at h),rfl⟩)
             · obtain rfl := Option.some.inj ho
               exact wpOpIn_of rfl rfl (wpW_val (r_fld (.tmp 48) _ rfl (hpre ⟨7, .data⟩ (by simp) rfl).2 (fld65_1 xb _)) ⟨_,rfl,hkp 8 (by decide) (by decide),World.grownBy.refl _ _,(fun h => by simp at h),rfl⟩)
             · obtain rfl := Option.some.inj ho
               have k9 : RepX X O w6 _ := (hpre ⟨6, .data⟩ (by simp) rfl).2
               obtain ⟨A7,m7,c7,e9⟩ := k9.form
               have e9' : a.eval (.tmp 47) = .slice A7 m7 c7 := e9
               rw [e9] at k9
               have hg6 : w6.grownBy (w6.setCell ⟨xb,2,none⟩ (.slice A7 m7 c7)) (some xb) := grown_setCell w6 xb 2 _
               have hf6 : w6.frozen? ⟨xb,2,none⟩ = false := by simp [World.frozen?,hS4]
               exact wpOpIn_of rfl rfl (wpW_skip (r_store1 22 (.tmp 49) (.tmp 47) ⟨xb,2,none⟩ _ (.slice A7 m7 c7) rfl (hpre ⟨8, .data⟩ (by simp) rfl).2 e9' rfl (cells5 hS4).2.2.1 hf6 (st25 _ _ _ _ _ (cells5 hS4).2.2.1 hf6)) ⟨undef,rfl,⟨grown_trans hS1 hg6,fun _ h => by simp at h, .slice A7 m7 c7,by
                   rw [if_pos (by simp)]
                   exact k9.keep (AgX.grown hg6 fun r hr => by cases hr; exact hXx),by
                   have := heap_set5 (k := 2) (z := .slice A7 m7 c7) hS4
                   simpa using this⟩,hg6,(fun _ => rfl),rfl⟩)
           · intro ls a W6 hall hS hP hsl
             obtain ⟨hS1, -,v2,hS3,hS4⟩ := hS
             rw [if_pos (hall 6 (by decide))] at hS4
             rw [if_pos (hall 9 (by decide))] at hS3
             obtain ⟨A7,m7,c7,rfl⟩ := hS3.form
             obtain ⟨vs,hvs,hfr⟩ := hP.frame 66 rfl
             have HS1 := Lib.hid hS1
             have HRX := Lib.hid hS3
             have HBX6 := Lib.hid hS4
             clear hsl hP hall hvs hS1 hS3 hS4 q0 q1 q2 H51 HPX
             subst hfr
             simp only [List.range,List.range.loop,List.map_cons,List.map_nil,List.any_cons,List.any_nil,Nat.reduceAdd,Nat.reduceBEq,Nat.reduceLT,Option.some_beq_some,Bool.or_false,if_true,if_false,List.getD_cons_zero,List.getD_cons_succ,Bool.false_or,Bool.or_true,Bool.true_or]
             go_wp2_with fail
             have hgl : g1 < s.back.length := by rw [HO.out.bl]; have := HG1.out; omega
             have HGL := Lib.hid hgl
             have hgm : g1 <= 1000000 := by have := HG1.out; omega
             have HXG : Hid (∀ r,(Value.slice C s.back.length cc).ownBlock = some r -> X r) := Lib.hid fun r hr => by rw [HXD.out]; exact .inr hr
             have HXN : Hid (∀ r,X r -> r = xb \/ (Value.slice C s.back.length cc).ownBlock = some r) := Lib.hid fun r hr => by rw [HXD.out] at hr; exact hr
             have hbk : OwnI base W6 (.slice C s.back.length cc) s.back := owns_keep HS3.out.back fun r hr => by
               obtain ⟨-,D,hD⟩ := owns_block HS3.out.back r hr
               refine HS1.out.block r (Array.getElem?_eq_some_iff.1 hD).1 fun e => ?_
               exact (ne_type hD HS3.out.box (by decide)) (Option.some.inj e)
             have HBK := Lib.hid hbk
             have HQ : Hid (∀ W',BelX X W6 W' -> W'.cell? ⟨w.heap.size,0,none⟩ = some (.pointer (some ⟨xb,0,none⟩)) /\ W'.heap[w2.heap.size]? = some (.cells #[.int .i64 ((s.n : Int) - 1), .slice A5 l.length c5] 24 (0,0))) := Lib.hid fun W' hg => by
               have h1 := (HS1.out.block _ (Array.getElem?_eq_some_iff.1 HP3.out).1 (by simp; omega)).trans HP3.out
               have h2 := (HS1.out.block _ (Array.getElem?_eq_some_iff.1 HK1.out).1 (by simp; omega)).trans HK1.out
               have h3 := (hg.block _ (Array.getElem?_eq_some_iff.1 h1).1 (fun hx => by have := HXLT.out _ hx; omega)).trans h1
               have h4 := (hg.block _ (Array.getElem?_eq_some_iff.1 h2).1 (fun hx => by have := HXLT.out _ hx; have := HXB.out; have := HW0R.out; have := HB2.out.size; omega)).trans h2
               exact ⟨by rw [cell_of_row _ _ _ _ _ _ h3]; rfl,h4⟩
             clear hbk hgl
             refine (wpIn_wide (n := 3)).1 ?_
             refine wpIn_region_all (by kernel_rfl) 17 rfl (fun i => if i < 13 then some (50 + i) else if i = 13 then none else if i < 16 then some (49 + i) else none) (lex_of (by kernel_rfl))
               (fun ls W' => BelX X W6 W' /\ W'.heap[xb]? = some (.cells #[if ls 13 = true then .int .i64 ((s.n : Int) - 1) else .int .i64 (s.n : Int),if ls 13 = true then .slice A5 l.length c5 else .slice A s.rels.length ac, .slice A7 m7 c7,if ls 16 = true then .slice C (s.back.length - 1) cc else .slice C s.back.length cc, .int .i64 (repErr O)] 68 (0,0)) /\ (if ls 10 = true then OwnI base W' (.slice C (s.back.length - 1) cc) (s.back.eraseIdx g1) else OwnI base W' (.slice C s.back.length cc) s.back))
               (fun i v _ => v = [Value.pointer (some ⟨xb,0,none⟩), .pointer (some ⟨xb,0,none⟩), .agg #[.int .i64 ((s.n : Int) - 1), .slice A5 l.length c5], .pointer (some ⟨xb,0,none⟩), .pointer (some ⟨xb,0,none⟩), .pointer (some ⟨xb,3,none⟩), .slice C s.back.length cc, .int .i64 (g : Int), .int .i64 (g1 : Int), .int .i64 (g : Int), .slice C (s.back.length - 1) cc, .pointer (some ⟨xb,0,none⟩), .pointer (some ⟨xb,0,none⟩),undef, .pointer (some ⟨xb,0,none⟩), .pointer (some ⟨xb,3,none⟩),undef].getD i undef)
               (fun _ _ _ => True) (dm_inj (by kernel_rfl)) (fun _ _ _ _ _ _ _ _ _ h => h) (dm_lt (n := 66) (by kernel_rfl)) ⟨BelX.of_below (Below.refl W6.heap.size W6).drew,HBX6.out,HBK.out⟩ ?_ ?_
             · intro ls q o a w6 hq ho hS hls hcl hP hpre
               obtain ⟨hS1,hS2,hS3⟩ := hS
               have hcases : q = 0 \/ q = 1 \/ q = 2 \/ q = 3 \/ q = 4 \/ q = 5 \/ q = 6 \/ q = 7 \/ q = 8 \/ q = 9 \/ q = 10 \/ q = 11 \/ q = 12 \/ q = 13 \/ q = 14 \/ q = 15 \/ q = 16 := by
                 have : q < 17 := hq
                 omega
               have hkp : ∀ q,q ≠ 10 -> q ≠ 13 -> q ≠ 16 -> (BelX X W6 w6 /\ w6.heap[xb]? = some (.cells #[if (fun j => if q = j then true else ls j) 13 = true then .int .i64 ((s.n : Int) - 1) else .int .i64 (s.n : Int),if (fun j => if q = j then true else ls j) 13 = true then .slice A5 l.length c5 else .slice A s.rels.length ac, .slice A7 m7 c7,if (fun j => if q = j then true else ls j) 16 = true then .slice C (s.back.length - 1) cc else .slice C s.back.length cc, .int .i64 (repErr O)] 68 (0,0)) /\ (if (fun j => if q = j then true else ls j) 10 = true then OwnI base w6 (.slice C (s.back.length - 1) cc) (s.back.eraseIdx g1) else OwnI base w6 (.slice C s.back.length cc) s.back)) := fun q h1 h2 h3 => by
                 simp only [if_neg h1,if_neg h2,if_neg h3]
                 exact ⟨hS1,hS2,hS3⟩
               have hown : ∀ w7,w6.grownBy w7 (some xb) -> (if ls 10 = true then OwnI base w7 (.slice C (s.back.length - 1) cc) (s.back.eraseIdx g1) else OwnI base w7 (.slice C s.back.length cc) s.back) := fun w7 hg => by
                 split
                 · rename_i h
                   rw [if_pos h] at hS3
                   refine owns_keep hS3 fun r hr => ?_
                   obtain ⟨-,D,hD⟩ := owns_block hS3 r hr
                   exact hg.block r (Array.getElem?_eq_some_iff.1 hD).1 fun e => (ne_type hD hS2 (by decide)) (Option.some.inj e)
                 · rename_i h
                   rw [if_neg h] at hS3
                   refine owns_keep hS3 fun r hr => ?_
                   obtain ⟨-,D,hD⟩ := owns_block hS3 r hr
                   exact hg.block r (Array.getElem?_eq_some_iff.1 hD).1 fun e => (ne_type hD hS2 (by decide)) (Option.some.inj e)
               rcases hcases with rfl | rfl | rfl | rfl | rfl | rfl | rfl | rfl | rfl | rfl | rfl | rfl | rfl | rfl | rfl | rfl | rfl
               · obtain rfl := Option.some.inj ho
                 exact wpOpIn_of rfl rfl (wpW_val (r_load1 66 agg63 (.tmp 1) ⟨w.heap.size,0,none⟩ rfl (hP.out 1 (dm_out (by kernel_rfl))) (HQ.out _ hS1).1) ⟨_,rfl,hkp 0 (by decide) (by decide) (by decide),trivial,(fun h => by simp at h),rfl⟩)
               · obtain rfl := Option.some.inj ho
                 exact wpOpIn_of rfl rfl (wpW_val (r_load1 66 agg63 (.tmp 1) ⟨w.heap.size,0,none⟩ rfl (hP.out 1 (dm_out (by kernel_rfl))) (HQ.out _ hS1).1) ⟨_,rfl,hkp 1 (by decide) (by decide) (by decide),trivial,(fun h => by simp at h),rfl⟩)
               · obtain rfl := Option.some.inj ho
                 exact wpOpIn_of rfl rfl (wpW_val (r_loadAt 24 (.tmp 5) _ _ rfl (hP.out 5 (dm_out (by kernel_rfl))) (load40 (HQ.out _ hS1).2)) ⟨_,rfl,hkp 2 (by decide) (by decide) (by decide),trivial,(fun h => by simp at h),rfl⟩)
               · obtain rfl := Option.some.inj ho
                 exact wpOpIn_of rfl rfl (wpW_val (r_load1 66 agg63 (.tmp 1) ⟨w.heap.size,0,none⟩ rfl (hP.out 1 (dm_out (by kernel_rfl))) (HQ.out _ hS1).1) ⟨_,rfl,hkp 3 (by decide) (by decide) (by decide),trivial,(fun h => by simp at h),rfl⟩)
               · obtain rfl := Option.some.inj ho
                 exact wpOpIn_of rfl rfl (wpW_val (r_nil (.tmp 53) _ rfl (hpre ⟨3, .data⟩ (by simp) rfl).2) ⟨_,rfl,hkp 4 (by decide) (by decide) (by decide),trivial,(fun h => by simp at h),rfl⟩)
               · obtain rfl := Option.some.inj ho
                 exact wpOpIn_of rfl rfl (wpW_val (r_fld (.tmp 54) _ rfl (hpre ⟨4, .data⟩ (by simp) rfl).2 (fld65_2 xb _)) ⟨_,rfl,hkp 5 (by decide) (by decide) (by decide),trivial,(fun h => by simp at h),rfl⟩)
               · obtain rfl := Option.some.inj ho
                 have h10 := not_yet hcl 10 rfl ⟨6, .data⟩ (by simp) rfl hls
                 have h16 := not_yet hcl 16 rfl ⟨10, .data⟩ (by simp) rfl h10
                 have hc3 := (cells5 hS2).2.2.2.1
                 rw [if_neg (by rw [h16]; simp)] at hc3
                 exact wpOpIn_of rfl rfl (wpW_val (r_load1 35 agg24 (.tmp 55) ⟨xb,3,none⟩ rfl (hpre ⟨5, .data⟩ (by simp) rfl).2 hc3) ⟨_,rfl,hkp 6 (by decide) (by decide) (by decide),trivial,(fun h => by simp at h),rfl⟩)
               · obtain rfl := Option.some.inj ho
                 exact wpOpIn_of rfl rfl (wpW_val (r_move (.tmp 4) rfl (hP.out 4 (dm_out (by kernel_rfl)))) ⟨_,rfl,hkp 7 (by decide) (by decide) (by decide),trivial,(fun h => by simp at h),rfl⟩)
               · obtain rfl := Option.some.inj ho
                 have h57 : a.eval (.tmp 57) = .int .i64 (g : Int) := (hpre ⟨7, .data⟩ (by simp) rfl).2
                 rw [HG1.out] at h57
                 exact wpOpIn_of rfl rfl (wpW_val (r_sub1 (.tmp 57) g1 rfl h57 hgm) ⟨_,rfl,hkp 8 (by decide) (by decide) (by decide),trivial,(fun h => by simp at h),rfl⟩)
               · obtain rfl := Option.some.inj ho
                 exact wpOpIn_of rfl rfl (wpW_val (r_move (.tmp 4) rfl (hP.out 4 (dm_out (by kernel_rfl)))) ⟨_,rfl,hkp 9 (by decide) (by decide) (by decide),trivial,(fun h => by simp at h),rfl⟩)
               · obtain rfl := Option.some.inj ho
                 rw [if_neg (by rw [hls]; simp)] at hS3
                 have h59 : a.eval (.tmp 59) = .int .i64 (g : Int) := (hpre ⟨9, .data⟩ (by simp) rfl).2
                 rw [HG1.out] at h59
                 have hdel : Calls Tryz.prog 85 #[.slice C s.back.length cc, .int .i64 (g1 : Int), .int .i64 ((g1 + 1 : Nat) : Int)] w6 fun e w7 => ∃ v,e = .returned v /\ (v = .slice C (s.back.length - 1) cc /\ OwnI base w7 (.slice C (s.back.length - 1) cc) (s.back.eraseIdx g1) /\ w6.grownBy w7 (Value.slice C s.back.length cc).ownBlock) := (delete52_any base w6 C cc g1 s.back hS3 HGL.out).mono fun e w7 ⟨h1,h2,h3⟩ => ⟨_,h1,rfl,h2,h3⟩
                 exact wpOpIn_of rfl rfl (wpW_call (r_call3 (.tmp 56) (.tmp 58) (.tmp 59) _ _ _ _ rfl (hpre ⟨6, .data⟩ (by simp) rfl).2 (hpre ⟨8, .data⟩ (by simp) rfl).2 h59 call52) hdel fun v w7 hR => ⟨v,rfl,⟨hS1.trans (BelX.of_grown hR.2.2 HXG.out),by
                   have hb7 := (hR.2.2.block xb (Array.getElem?_eq_some_iff.1 hS2).1 (fun e => by
                     obtain ⟨-,D,hD⟩ := owns_block hS3 xb e.symm
                     exact (ne_type hD hS2 (by decide)) rfl)).trans hS2
                   simpa using hb7,by
                   rw [if_pos (by simp)]
                   exact hR.2.1⟩,trivial,(fun h => by simp at h),hR.1⟩)
               · obtain rfl := Option.some.inj ho
                 exact wpOpIn_of rfl rfl (wpW_val (r_nil (.tmp 50) _ rfl (hpre ⟨0, .data⟩ (by simp) rfl).2) ⟨_,rfl,hkp 11 (by decide) (by decide) (by decide),trivial,(fun h => by simp at h),rfl⟩)
               · obtain rfl := Option.some.inj ho
                 exact wpOpIn_of rfl rfl (wpW_val (r_fld (.tmp 61) _ rfl (hpre ⟨11, .data⟩ (by simp) rfl).2 (fld65_0 xb _)) ⟨_,rfl,hkp 12 (by decide) (by decide) (by decide),trivial,(fun h => by simp at h),rfl⟩)
               · obtain rfl := Option.some.inj ho
                 have hg6 : w6.grownBy (w6.setCells xb 0 [.int .i64 ((s.n : Int) - 1), .slice A5 l.length c5]) (some xb) := grown_setCells xb _ 0 w6
                 exact wpOpIn_of rfl rfl (wpW_skip (r_storeP (.tmp 62) (.tmp 52) xb ((s.n : Int) - 1) A5 l.length c5 rfl (hpre ⟨12, .data⟩ (by simp) rfl).2 (hpre ⟨2, .data⟩ (by simp) rfl).2 (there5 hS2)) ⟨undef,rfl,⟨hS1.trans (BelX.of_grown hg6 fun k hk => by cases hk; exact hXx),by
                   have := heap_storeP (x := .int .i64 ((s.n : Int) - 1)) (y := .slice A5 l.length c5) hS2
                   simpa using this,by
                   have := hown _ hg6
                   simpa using this⟩,trivial,(fun _ => rfl),rfl⟩)
               · obtain rfl := Option.some.inj ho
                 exact wpOpIn_of rfl rfl (wpW_val (r_nil (.tmp 51) _ rfl (hpre ⟨1, .data⟩ (by simp) rfl).2) ⟨_,rfl,hkp 14 (by decide) (by decide) (by decide),trivial,(fun h => by simp at h),rfl⟩)
               · obtain rfl := Option.some.inj ho
                 exact wpOpIn_of rfl rfl (wpW_val (r_fld (.tmp 63) _ rfl (hpre ⟨14, .data⟩ (by simp) rfl).2 (fld65_2 xb _)) ⟨_,rfl,hkp 15 (by decide) (by decide) (by decide),trivial,(fun h => by simp at h),rfl⟩)
               · obtain rfl := Option.some.inj ho
                 have hg6 : w6.grownBy (w6.setCell ⟨xb,3,none⟩ (.slice C (s.back.length - 1) cc)) (some xb) := grown_setCell w6 xb 3 _
                 have hf6 : w6.frozen? ⟨xb,3,none⟩ = false := by simp [World.frozen?,hS2]
                 exact wpOpIn_of rfl rfl (wpW_skip (r_store1 35 (.tmp 64) (.tmp 60) ⟨xb,3,none⟩ _ (.slice C (s.back.length - 1) cc) rfl (hpre ⟨15, .data⟩ (by simp) rfl).2 (hpre ⟨10, .data⟩ (by simp) rfl).2 rfl (cells5 hS2).2.2.2.1 hf6 (st23 _ _ _ _ _ (cells5 hS2).2.2.2.1 hf6)) ⟨undef,rfl,⟨hS1.trans (BelX.of_grown hg6 fun k hk => by cases hk; exact hXx),by
                   have := heap_set5 (k := 3) (z := .slice C (s.back.length - 1) cc) hS2
                   simpa using this,by
                   have := hown _ hg6
                   simpa using this⟩,trivial,(fun _ => rfl),rfl⟩)
             · intro ls a W7 hall hS hP hsl
               obtain ⟨hS1,hS2,hS3⟩ := hS
               rw [if_pos (hall 13 (by decide)),if_pos (hall 13 (by decide)),if_pos (hall 16 (by decide))] at hS2
               rw [if_pos (hall 10 (by decide))] at hS3
               obtain ⟨vs,hvs,hfr⟩ := hP.frame 66 rfl
               have H1 := Lib.hid hS1
               have H2 := Lib.hid hS2
               have H3 := Lib.hid hS3
               clear hsl hP hall hvs hS1 hS2 hS3
               subst hfr
               simp only [List.range,List.range.loop,List.map_cons,List.map_nil,List.any_cons,List.any_nil,Nat.reduceAdd,Nat.reduceBEq,Nat.reduceLT,Option.some_beq_some,Bool.or_false,if_true,if_false,List.getD_cons_zero,List.getD_cons_succ,Bool.false_or,Bool.or_true,Bool.true_or,Nat.reduceEqDiff]
               go_wp2_with fail
               go_ret
               have h36 : BelX X w3 W6 := BelX.of_grown HS1.out fun k hk => by cases hk; exact hXx
               have hw3X : BelX X w w3 := BelX.of_below (HBN.out.trans (HB3.out.mono HBN.out.size))
               have hbel : BelX (XB xb (.slice C s.back.length cc)) w W7 := by
                 rw [<- HXD.out]
                 exact (hw3X.trans h36).trans H1.out
               have hel : s.elim = some (match sbL im s.into with | none => .inr () | some m => .inl ⟨s.n - 1,l,m,s.back.eraseIdx (g - 1)⟩) := by
                 unfold Sp.elim
                 rw [HFE.out]
                 rfl
               unfold El29
               cases O with
               | none =>
                 rw [<- HOD.out] at hel
                 rw [hel]
                 exact ⟨rfl,(cells5 H2.out).2.2.2.2,hbel⟩
               | some m =>
                 rw [<- HOD.out] at hel
                 rw [hel]
                 obtain ⟨A8,c8,e8,t8⟩ := HRX.out
                 injection e8 with e1 e2 e3
                 subst e1 e2 e3
                 have hlen : (s.back.eraseIdx (g - 1)).length = s.back.length - 1 := by
                   rw [List.length_eraseIdx,if_pos (by rw [HG1.out]; exact HGL.out)]
                 have hg1' : g - 1 = g1 := by have := HG1.out; omega
                 have hXeq : ∀ i,XB xb (.slice C (s.back.eraseIdx (g - 1)).length cc) i -> X i := fun i hi => by
                   rw [HXD.out]
                   rcases hi with h | h
                   · exact .inl h
                   · exact .inr (by rw [ownBlock_len C _ (s.back.eraseIdx (g - 1)).length cc cc]; exact h)
                 refine ⟨rfl,⟨A5,c5,A7,c7,cc,rfl, ?_,HS.out.lo, ?_, ?_, ?_⟩,hbel⟩
                 · show W7.heap[xb]? = some (.cells #[.int .i64 ((s.n - 1 : Nat) : Int), .slice A5 l.length c5, .slice A7 m.length c7, .slice C (s.back.eraseIdx (g - 1)).length cc, .int .i64 0] 68 (0,0))
                   rw [hlen,show ((s.n - 1 : Nat) : Int) = (s.n : Int) - 1 by omega]
                   exact H2.out
                 · exact (HT53.out.keep (h36.trans H1.out).ag).mono hXeq
                 · exact (t8.keep H1.out.ag).mono hXeq
                 · show OwnI base W7 (.slice C (s.back.eraseIdx (g - 1)).length cc) (s.back.eraseIdx (g - 1))
                   rw [hlen,hg1']
                   exact H3.out
       · obtain rfl : g = 0 := by omega
         go_wp2_with fail
         go_roundw
         case rel =>
           refine ⟨i + 1,by omega,by go_num,Lib.hid fun a ha g h1 h2 => ?_,HBI⟩
           rcases Nat.lt_succ_iff_lt_or_eq.1 ha with h | rfl
           · exact HDN.out a h g h1 h2
           · exact HGN.out g (by omega) h2
         case measure => simp [intOf]; omega
   · obtain rfl : s.rels.length = i := by omega
     have HNO : Hid (s.elim = none) := Lib.hid (by unfold Sp.elim; rw [firstE_none HDN.out])
     go_wp2_with fail
     go_ret
     unfold El29
     rw [HNO.out]
     exact ⟨rfl,HBN.out.trans (HBW.out.mono HBN.out.size)⟩
end Go.Proofs
namespace Go.Proofs
open Go.RowKit Go.Shelf Go.Lib Go.Sort Go.Proofs.Ct Go.Proofs.Tz Go.Maps
def StepP (base xb : Nat) (s : Sp) (C : Option Addr) (c : Nat) (w : World) (t : Bool) (w' : World) : Prop :=
 match s.elim with
 | some (.inl s') => t = true /\ (∃ A a B b,StX base xb s' 0 w' A a B b C c) /\ BelX (XB xb (.slice C s.back.length c)) w w'
 | some (.inr _) => t = true /\ w'.cell? ⟨xb,4,none⟩ = some (.int .i64 4) /\ BelX (XB xb (.slice C s.back.length c)) w w'
 | none => match shortF s.rels with
   | some l => t = true /\ (∃ A a B b,StX base xb { s with rels := l } 0 w' A a B b C c) /\ BelX (XB xb (.slice C s.back.length c)) w w'
   | none => t = false /\ Below w.heap.size w w'
theorem sh28_bool {base xb : Nat} {s : Sp} {B : Option Addr} {b : Nat} {C : Option Addr} {c : Nat} {w : World} {e : Ending} {w' : World} (h : Sh28 base xb s B b C c w e w') : ∃ t : Bool,e = .returned (.bool t) /\ Sh28 base xb s B b C c w (.returned (.bool t)) w' := by
 cases hs : shortF s.rels with
 | none => unfold Sh28 at h ⊢; rw [hs] at h ⊢; exact ⟨false,h.1,rfl,h.2⟩
 | some l => unfold Sh28 at h ⊢; rw [hs] at h ⊢; exact ⟨true,h.1,rfl,h.2⟩
theorem el29_bool {base xb : Nat} {s : Sp} {C : Option Addr} {c : Nat} {w : World} {e : Ending} {w' : World} (h : El29 base xb s C c w e w') : ∃ t : Bool,e = .returned (.bool t) /\ El29 base xb s C c w (.returned (.bool t)) w' := by
 unfold El29 at h ⊢
 cases hs : s.elim with
 | none => rw [hs] at h; exact ⟨false,h.1,rfl,h.2⟩
 | some o =>
   rw [hs] at h
   cases o with
   | inl s' => exact ⟨true,h.1,rfl,h.2⟩
   | inr u => exact ⟨true,h.1,rfl,h.2⟩
set_option maxRecDepth 100000 in
set_option maxHeartbeats 1000000 in
theorem way31_el (base xb n0 bp : Nat) (s : Sp) (w : World) (A : Option Addr) (ac : Nat) (B : Option Addr) (bc : Nat) (C : Option Addr) (cc : Nat) (hS : StX base xb s 0 w A ac B bc C cc) (hO : Okay n0 s) (hn0 : n0 <= 16) (hil : ∀ z ∈ s.into,z.length <= 4000) (hb : base <= w.heap.size)
   (hp : w.heap[bp]? = some (.cells #[.pointer (some ⟨xb,0,none⟩)] 66 (0,0))) : Calls Tryz.prog 45 #[.func (.func 43) #[] #[], .pointer (some ⟨bp,0,none⟩)] w fun e w' => ∃ t : Bool,e = .returned (.bool t) /\ El29 base xb s C cc w (.returned (.bool t)) w' := by
 have HC := Lib.hid ((eliminate29_any base xb n0 s w A ac B bc C cc hS hO hn0 hil hb).mono fun e w' h => el29_bool h)
 have hc : w.cell? ⟨bp,0,none⟩ = some (.pointer (some ⟨xb,0,none⟩)) := by rw [cell_of_row _ _ _ _ _ _ hp]; rfl
 clear hS hO hn0 hil hb hp
 go_enter Tryz.func45,Tryz.ntmps45
 go_wp2_with (go_at_call 43; (refine HC.out.mono ?_); rintro e w1 ⟨t,rfl,h⟩; have HE := Lib.hid h; clear h)
 go_ret
 exact ⟨t,rfl,HE.out⟩
set_option maxRecDepth 100000 in
set_option maxHeartbeats 1000000 in
theorem way31_sh (base xb bp : Nat) (s : Sp) (w : World) (A : Option Addr) (ac : Nat) (B : Option Addr) (bc : Nat) (C : Option Addr) (cc : Nat) (hS : StX base xb s 0 w A ac B bc C cc) (hC : Cln s.n s.rels) (hb : base <= w.heap.size)
   (hp : w.heap[bp]? = some (.cells #[.pointer (some ⟨xb,0,none⟩)] 66 (0,0))) : Calls Tryz.prog 45 #[.func (.func 41) #[] #[], .pointer (some ⟨bp,0,none⟩)] w fun e w' => ∃ t : Bool,e = .returned (.bool t) /\ Sh28 base xb s B bc C cc w (.returned (.bool t)) w' := by
 have HC := Lib.hid ((shorten28_any base xb s w A ac B bc C cc hS hC hb).mono fun e w' h => sh28_bool h)
 have hc : w.cell? ⟨bp,0,none⟩ = some (.pointer (some ⟨xb,0,none⟩)) := by rw [cell_of_row _ _ _ _ _ _ hp]; rfl
 clear hS hC hb hp
 go_enter Tryz.func45,Tryz.ntmps45
 go_wp2_with (go_at_call 41; (refine HC.out.mono ?_); rintro e w1 ⟨t,rfl,h⟩; have HE := Lib.hid h; clear h)
 go_ret
 exact ⟨t,rfl,HE.out⟩
set_option maxRecDepth 100000 in
set_option maxHeartbeats 4000000 in
theorem ways53_any (base xb n0 bp bw : Nat) (s : Sp) (w : World) (A : Option Addr) (ac : Nat) (B : Option Addr) (bc : Nat) (C : Option Addr) (cc : Nat) (hS : StX base xb s 0 w A ac B bc C cc) (hO : Okay n0 s) (hn0 : n0 <= 16) (hil : ∀ z ∈ s.into,z.length <= 4000) (hb : base <= w.heap.size)
   (hp : w.heap[bp]? = some (.cells #[.pointer (some ⟨xb,0,none⟩)] 66 (0,0))) (hw : w.heap[bw]? = some (.cells #[.func (.func 43) #[] #[], .func (.func 41) #[] #[]] 72 (0,0))) :
   Calls Tryz.prog 86 #[.slice (some ⟨bw,0,none⟩) 2 2, .func (.func 45) #[] #[.pointer (some ⟨bp,0,none⟩)]] w fun e w' => ∃ i : Int,(-1 <= i /\ i <= 1) /\ e = .returned (.int .i64 i) /\ StepP base xb s C cc w (decide (0 <= i)) w' := by
 have HE31 := Lib.hid (way31_el base xb n0 bp s w A ac B bc C cc hS hO hn0 hil hb hp)
 have HS31 : Hid (∀ W,Below w.heap.size w W -> Calls Tryz.prog 45 #[.func (.func 41) #[] #[], .pointer (some ⟨bp,0,none⟩)] W fun e w' => ∃ t : Bool,e = .returned (.bool t) /\ Sh28 base xb s B bc C cc W (.returned (.bool t)) w') := Lib.hid fun W h => way31_sh base xb bp s W A ac B bc C cc (hS.below h) hO.cln (Nat.le_trans hb h.size) ((h.block _ (Array.getElem?_eq_some_iff.1 hp).1).trans hp)
 have HWC : Hid (∀ W,Below w.heap.size w W -> W.cell? ⟨bw,0,none⟩ = some (.func (.func 43) #[] #[]) /\ W.cell? ⟨bw,1,none⟩ = some (.func (.func 41) #[] #[])) := Lib.hid fun W h => cell_of2 ((h.block _ (Array.getElem?_eq_some_iff.1 hw).1).trans hw)
 clear hS hO hn0 hil hb hp hw
 go_enter Tryz.func86,Tryz.ntmps86
 go_wp2_with fail
 go_loopw [5,8] (fun _ z wr => ∃ k : Nat,k <= 2 /\ z = .int .i64 k /\ Hid ((k = 0 -> wr = w) /\ (1 <= k -> s.elim = none) /\ (2 <= k -> shortF s.rels = none) /\ Below w.heap.size w wr)) (fun _ z _ => 2 - (intOf z).toNat)
 case atStart => exact ⟨0,by omega,rfl,Lib.hid ⟨fun _ => rfl,fun h => absurd h (by omega),fun h => absurd h (by omega),Below.refl _ _⟩⟩
 case round =>
   obtain ⟨k,hk,rfl,HK⟩ := hrel
   have hk3 : k = 0 \/ k = 1 \/ k = 2 := by omega
   rcases hk3 with rfl | rfl | rfl
   · obtain ⟨q0,q1⟩ := HWC.out wr HK.out.2.2.2
     obtain rfl := HK.out.1 rfl
     go_wp2_with (go_at_call 45; (refine HE31.out.mono ?_); rintro e w1 ⟨t,rfl,h⟩; have HE := Lib.hid h; clear h)
     · rename_i ht
       subst ht
       go_ret
       refine ⟨0,by omega,rfl, ?_⟩
       have h := HE.out
       unfold El29 at h
       unfold StepP
       cases hs : s.elim with
       | none => rw [hs] at h; exact absurd h.1 (by simp)
       | some o =>
         rw [hs] at h
         cases o with
         | inl s' => obtain ⟨-,⟨A',a',B',b',c',rfl,h3⟩,h4⟩ := h; exact ⟨rfl,⟨A',a',B',b',h3⟩,h4⟩
         | inr u => exact ⟨rfl,h.2⟩
     · rename_i ht
       obtain rfl : t = false := by simpa using ht
       go_roundw
       case rel =>
         have h := HE.out
         unfold El29 at h
         refine ⟨1,by omega,by go_num,Lib.hid ⟨fun h => absurd h (by omega),fun _ => ?_,fun h => absurd h (by omega), ?_⟩⟩
         · cases hs : s.elim with
           | none => rfl
           | some o =>
             rw [hs] at h
             cases o with
             | inl s' => exact absurd h.1 (by simp)
             | inr u => exact absurd h.1 (by simp)
         · cases hs : s.elim with
           | none => rw [hs] at h; exact h.2
           | some o =>
             rw [hs] at h
             cases o with
             | inl s' => exact absurd h.1 (by simp)
             | inr u => exact absurd h.1 (by simp)
       case measure => simp [intOf]
   · obtain ⟨q0,q1⟩ := HWC.out wr HK.out.2.2.2
     have HC := Lib.hid (HS31.out wr HK.out.2.2.2)
     go_wp2_with (go_at_call 45; (refine HC.out.mono ?_); rintro e w1 ⟨t,rfl,h⟩; have HE := Lib.hid h; clear h)
     · rename_i ht
       subst ht
       go_ret
       refine ⟨1,by omega,rfl, ?_⟩
       have h := HE.out
       unfold Sh28 at h
       unfold StepP
       rw [HK.out.2.1 (by omega)]
       cases hs : shortF s.rels with
       | none => rw [hs] at h; exact absurd h.1 (by simp)
       | some l =>
         rw [hs] at h
         obtain ⟨-,⟨A',a',h3⟩,h4⟩ := h
         exact ⟨rfl,⟨A',a',_,_,h3⟩,(BelX.of_below HK.out.2.2.2).trans h4⟩
     · rename_i ht
       obtain rfl : t = false := by simpa using ht
       go_roundw
       case rel =>
         have h := HE.out
         unfold Sh28 at h
         cases hs : shortF s.rels with
         | none =>
           rw [hs] at h
           exact ⟨2,by omega,by go_num,Lib.hid ⟨fun h => absurd h (by omega),fun _ => HK.out.2.1 (by omega),fun _ => (by first | exact hs | rfl),HK.out.2.2.2.trans (h.2.mono HK.out.2.2.2.size)⟩⟩
         | some l => rw [hs] at h; exact absurd h.1 (by simp)
       case measure => simp [intOf]
   · go_wp2_with fail
     go_ret
     refine ⟨-1,by omega,rfl, ?_⟩
     unfold StepP
     rw [HK.out.2.1 (by omega),HK.out.2.2.1 (by omega)]
     exact ⟨rfl,HK.out.2.2.2⟩
set_option maxRecDepth 100000 in
set_option maxHeartbeats 1000000 in
theorem step30_any (base xb n0 bp bw : Nat) (s : Sp) (w : World) (A : Option Addr) (ac : Nat) (B : Option Addr) (bc : Nat) (C : Option Addr) (cc : Nat) (hS : StX base xb s 0 w A ac B bc C cc) (hO : Okay n0 s) (hn0 : n0 <= 16) (hil : ∀ z ∈ s.into,z.length <= 4000) (hb : base <= w.heap.size)
   (hp : w.heap[bp]? = some (.cells #[.pointer (some ⟨xb,0,none⟩)] 66 (0,0))) (hw : w.heap[bw]? = some (.cells #[.func (.func 43) #[] #[], .func (.func 41) #[] #[]] 72 (0,0))) :
   Calls Tryz.prog 44 #[.slice (some ⟨bw,0,none⟩) 2 2, .func (.func 45) #[] #[.pointer (some ⟨bp,0,none⟩)]] w fun e w' => ∃ t : Bool,e = .returned (.bool t) /\ StepP base xb s C cc w t w' := by
 have HC := Lib.hid (ways53_any base xb n0 bp bw s w A ac B bc C cc hS hO hn0 hil hb hp hw)
 clear hS hO hn0 hil hb hp hw
 go_enter Tryz.func44,Tryz.ntmps44
 go_wp2_with (go_at_call 86; (refine HC.out.mono ?_); rintro e w1 ⟨i,hi,rfl,h⟩; have HE := Lib.hid h; clear h)
 go_ret
 exact ⟨_,rfl,HE.out⟩
end Go.Proofs
namespace Go.Proofs
open Go.RowKit Go.Shelf Go.Proofs.Ct Go.Maps
section
variable {F : Fence} {n : Nat} {P : Program} {ops : Array Oper} {Q : Exit -> Act -> World -> Prop}
theorem wpIn_region_act {id : Nat} {a0 : Act} {w : World} (hm : P.follows .mixedOrders = true) (N : Nat) (hN : ops.size = N) (dm : Nat -> Option Tmp) (hlex : ∀ (i : Nat) (o : Oper),ops[i]? = some o -> ∀ e ∈ o.after.toList,Region.binds .any e = true -> e.on < i)
   (S : (Nat -> Bool) -> Act -> World -> Prop) (Φ : Nat -> Value -> World -> Prop) (G : Nat -> World -> World -> Prop)
   (hdm : ∀ i j t,i < N -> j < N -> dm i = some t -> dm j = some t -> i = j)
   (hΦ : ∀ i j v w w',i < N -> j < N -> i ≠ j -> G i w w' -> Φ j v w -> Φ j v w')
   (hsz : ∀ i t,i < N -> dm i = some t -> t < a0.tmps.size) (h0 : S (fun _ => false) a0 w.drew)
   (hop : ∀ (ls : Nat -> Bool) (i : Nat) (o : Oper) (a : Act) (w : World),i < N -> ops[i]? = some o -> S ls a w -> ls i = false -> (∀ (j : Nat) (oj : Oper),ops[j]? = some oj -> ls j = true -> ∀ e ∈ oj.after.toList,Region.binds .any e = true -> ls e.on = true) -> Part a0 dm N ls a ->
     (∀ e ∈ o.after.toList,Region.binds .any e = true -> ls e.on = true /\ Φ e.on (slotv a (dm e.on)) w) ->
     wpOpIn F n P ops Q i (fun a' w' => ∃ v,a' = a.put (dm i) v /\ S (fun j => if i = j then true else ls j) a' w' /\ G i w w' /\ (dm i = none -> v = undef) /\ Φ i v w') a w)
   (hend : ∀ (ls : Nat -> Bool) (a : Act) (w : World),(∀ i,i < N -> ls i = true) -> S ls a w -> Part a0 dm N ls a -> (∀ i,i < N -> Φ i (slotv a (dm i)) w) -> Q .normal a w) :
   (Code.region id ops true).wpIn F n P Q a0 w := by
 subst hN
 refine wpIn_region_any hm ?_
 refine wpAnyIn_inv (fun listed a w => Closed ops listed /\ S (fun j => listed.getD j false) a w /\ Part a0 dm ops.size (fun j => listed.getD j false) a /\ ∀ i,i < ops.size -> listed.getD i false = true -> Φ i (slotv a (dm i)) w) ?_ ?_ ops.size _ a0 _ (by simp) ?_ ⟨fun i o ho h => ?_, ?_,⟨rfl,rfl,fun _ _ => rfl⟩,fun i hi h => ?_⟩
 · rintro listed a w i hls ⟨hcl,hS,hP,hsl⟩ hi
   obtain ⟨h1,h2,o,ho,hpre⟩ := ready_mem hi
   rw [getD_true_false (by omega)] at h2
   have hsetD : ∀ j,(listed.setIfInBounds i true).getD j false = if i = j then true else listed.getD j false := fun j => getD_set_listed (by omega)
   have hcl' : Closed ops (listed.setIfInBounds i true) := fun j oj hoj hl e he hb => by
     rw [hsetD] at hl ⊢
     by_cases eij : i = j
     · subst eij
       rw [ho] at hoj; cases hoj
       have := hpre e he hb
       split
       · rfl
       · exact this
     · rw [if_neg eij] at hl
       have := hcl j oj hoj hl e he hb
       split
       · rfl
       · exact this
   have hwp := hop _ i o a w h1 ho hS h2 (fun j oj hoj hl => hcl j oj hoj hl) hP (fun e he hb => ⟨hpre e he hb,hsl e.on (by have := hlex i o ho e he hb; omega) (hpre e he hb)⟩)
   refine wpOpIn_mono (fun a' w' h => ?_) hwp
   obtain ⟨v,rfl,hS',hG,hvn,hv⟩ := h
   rw [show (fun j => if i = j then true else listed.getD j false) = (fun j => (listed.setIfInBounds i true).getD j false) from (funext hsetD).symm] at hS'
   have hP' := hP.put h1 v
   rw [show (fun j => if i = j then true else listed.getD j false) = (fun j => (listed.setIfInBounds i true).getD j false) from (funext hsetD).symm] at hP'
   refine ⟨hcl',hS',hP',fun j hj hl => ?_⟩
   by_cases e : i = j
   · subst e
     have : slotv (a.put (dm i) v) (dm i) = v := by
       cases hdi : dm i with
       | none => rw [hvn hdi]; rfl
       | some t => exact put_getD_same _ _ _ (by rw [hP.size]; exact hsz i t h1 hdi)
     rw [this]
     exact hv
   · rw [hsetD,if_neg e] at hl
     have := hΦ i j _ _ _ h1 hj e hG (hsl j hj hl)
     have hv' : slotv (a.put (dm i) v) (dm j) = slotv a (dm j) := by
       cases hdj : dm j with
       | none => rfl
       | some t =>
         cases hdi : dm i with
         | none => rfl
         | some t' => exact put_getD_ne _ _ _ _ (fun e' => e (hdm i j t h1 hj (by rw [hdi,e']) hdj))
     rw [hv']
     exact this
 · rintro listed a w hls ⟨hcl,hS,hP,hsl⟩ hr
   have hready : ∀ i,i < ops.size -> listed.getD i false = true := by
     intro i
     induction i using Nat.strongRecOn with
     | _ i ih =>
       intro hi
       rcases hl : listed.getD i false with _ | _
       · have hmem : i ∈ Region.ready .any ops listed := by
           simp only [Region.ready,List.mem_filter,List.mem_range,Bool.and_eq_true,Bool.not_eq_true']
           refine ⟨hi,by rw [getD_true_false (by omega)]; exact hl, ?_⟩
           rw [Array.getElem?_eq_getElem hi]
           simp only [Option.map_some,Option.getD_some]
           rw [Array.all_eq_true_iff_forall_mem]
           intro e he
           by_cases hb : Region.binds .any e = true
           · have hlt := hlex i _ (Array.getElem?_eq_getElem hi) e (by simpa using he) hb
             simp [ih e.on hlt (by omega)]
           · simp [hb]
         rw [hr] at hmem; cases hmem
       · rfl
   exact hend _ a w hready hS hP (fun i hi => hsl i hi (hready i hi))
 · simp
 · have : (Array.replicate ops.size false).getD i false = false := by
     simp only [Array.getD_eq_getD_getElem?,Array.getElem?_replicate]; split <;> rfl
   rw [this] at h; cases h
 · rw [show (fun j => (Array.replicate ops.size false).getD j false) = (fun _ => false) from funext fun j => by simp only [Array.getD_eq_getD_getElem?,Array.getElem?_replicate]; split <;> rfl]
   exact h0
 · have : (Array.replicate ops.size false).getD i false = false := by
     simp only [Array.getD_eq_getD_getElem?,Array.getElem?_replicate]; split <;> rfl
   rw [this] at h; cases h
end
theorem slotv_put_ne {a : Act} {s t : Tmp} {v : Value} (h : s ≠ t) : slotv (a.put (some s) v) (some t) = slotv a (some t) := put_getD_ne _ _ _ _ h
end Go.Proofs
