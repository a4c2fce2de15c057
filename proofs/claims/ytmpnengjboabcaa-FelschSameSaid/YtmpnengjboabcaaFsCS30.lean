/- (*looker).step; Lookahead, plainly: where there is room enough it is the plain procedure; Any two coset tables of the same subgroup are equal; What lookahead answers, plainly; the three strategies compared. -/
import Derived.Test.YtmpnengjboabcaaFsCS29
import Derived.Test.YtmpnengjboabcaaFsCS11
import Derived.Test.YtmpnengjboabcaaFsCS25
import Derived.Test.YtmpnengjboabcaaFsCS20
namespace Go.Proofs
open Go.RowKit Go.Shelf Go.Proofs.Ct Go.Maps
def jgm (K:Nat->Prop) (base:Nat) (w:World) (v:Value) (l:List W):Prop:=∃ w0,Tab w0 v l/\∀ W,jha base K w W->Below w0.heap.size w0 W
section
variable {K:Nat->Prop} {base:Nat} {w:World} {v:Value} {l:List W}
theorem jgm.tab (h:jgm K base w v l) {W:World} (hb:jha base K w W):Tab W v l:=by
 obtain ⟨w0,ht,h0⟩:=h
 exact jda.below ht (h0 W hb)
theorem jgm.at_ (h:jgm K base w v l) {k:Nat} (hk:k < l.length):∃ b o c u,v=.slice (some ⟨b,o,none⟩) l.length c/\∀ W,jha base K w W->W.cell? ⟨b,o + k,none⟩=some u/\jma W u (l.getD k []):=by
 obtain ⟨w0,ht,h0⟩:=h
 obtain ⟨A,c,rfl,-,-,h3⟩:=ht.open_
 obtain ⟨b,o,rfl,h4⟩:=h3 (by omega)
 obtain ⟨u,hu,hI⟩:=h4 k hk
 exact ⟨b,o,c,u,rfl,fun W hW=>⟨((h0 W hW).cell (p:=⟨b,o + k,none⟩) (World.block_lt_of_cell? w0 _ hu)).trans hu,jie.below hI (h0 W hW)⟩⟩
theorem jgm.later (h:jgm K base w v l) {w' : World} (hb:jha base K w w'):jgm K base w' v l:=by
 obtain ⟨w0,ht,h0⟩:=h
 exact ⟨w0,ht,fun W hW=>h0 W (hb.trans hW)⟩
end
theorem LkF.lose {K:Nat->Prop} {vr:Value} {g base b m lim:Nat} {w:World} {x:LS} (h:LkF K vr g base b m lim w x) (l:Bool):LkF K vr g base b m lim (w.setCell ⟨b,10,none⟩ (.bool l)) { x with lost:=l }/\jha base K w (w.setCell ⟨b,10,none⟩ (.bool l)):=by
 obtain ⟨k,⟨bl,cs,hs⟩,h1⟩:=h
 obtain ⟨h2,h3⟩:=hs.setEx ⟨by decide,by decide,by decide⟩ (k:=2) (by simp [exL]) (.bool l)
 exact ⟨⟨k,⟨bl,cs,h2⟩,h1⟩,h3⟩
theorem LkF.goto {K:Nat->Prop} {vr:Value} {g base b m lim:Nat} {w:World} {x:LS} (h:LkF K vr g base b m lim w x) (r:Nat):LkF K vr g base b m lim (w.setCell ⟨b,9,none⟩ (.int .i64 (r:Int))) { x with r:=r }/\jha base K w (w.setCell ⟨b,9,none⟩ (.int .i64 (r:Int))):=by
 obtain ⟨k,⟨bl,cs,hs⟩,h1⟩:=h
 obtain ⟨h2,h3⟩:=hs.setEx ⟨by decide,by decide,by decide⟩ (k:=1) (by simp [exL]) (.int .i64 (r:Int))
 exact ⟨⟨k,⟨bl,cs,h2⟩,h1⟩,h3⟩
theorem LkF.alive {K:Nat->Prop} {vr:Value} {g base b m lim:Nat} {w:World} {x:LS} (h:LkF K vr g base b m lim w x) (hx:x.r < x.s.t.length):Calls Try.prog 198 #[.pointer (some ⟨b,0,none⟩),.int .i64 (x.r:Int)] w fun e w'=>e=.returned (.bool (decide (x.s.rp x.r=x.r)))/\w'=w:=by
 obtain ⟨k,⟨bl,cs,hs⟩,-⟩:=h
 exact jud K 176 _ bl cs base b m lim x.r w ⟨x.s,k⟩ hs hx
theorem LkF.look {K:Nat->Prop} {vr:Value} {g base b m lim:Nat} {w:World} {x:LS} (h:LkF K vr g base b m lim w x):(∃ A c,w.cell? ⟨b,2,none⟩=some (.slice A x.s.t.length c))/\w.cell? ⟨b,7,none⟩=some (.int .i64 x.s.most)/\w.cell? ⟨b,8,none⟩=some vr/\w.cell? ⟨b,9,none⟩=some (.int .i64 (x.r:Int))/\w.cell? ⟨b,10,none⟩=some (.bool x.lost)/\w.cell? ⟨b,11,none⟩=some (.int .i64 (x.removed:Int))/\w.cell? ⟨b,12,none⟩=some (.int .i64 (x.looks:Int))/\(∀ k,w.frozen? ⟨b,k,none⟩=false)/\x.s.t.length<=1000:=by
 obtain ⟨k,hst,hfi,-⟩:=h
 obtain ⟨-,-,h2,-,h8,h9,h10,h11,h12,hf⟩:=hst.look
 exact ⟨h2,hst.live.2,h8,h9,h10,h11,h12,hf,hfi.n⟩
set_option maxRecDepth 100000 in
set_option maxHeartbeats 4000000 in
theorem jkx (K:Nat->Prop) (vr:Value) (g m base b lim:Nat) (hm:m=2 * g) (w:World) (x:LS) (rels:List W) (hS:LkF K vr g base b m lim w x) (hG:LGood g lim x) (hx:x.r < x.s.t.length) (hbw:base<=w.heap.size) (hlim:lim<=1000) (hrl:rels.length<=100000)
   (hv:jgm K base w vr rels) (hr:∀ j,LOk g (rels.getD j [])) (hwr:∀ j,(rels.getD j []).length<=1000000) :
   Calls Try.prog 157 #[.pointer (some ⟨b,0,none⟩)] w fun e w'=>((∃ y,jri m lim rels x=some y/\e=.returned (.tuple #[])/\LkF K vr g base b m lim w' y)\/(jri m lim rels x=none/\e=.panicked jug))/\jha base K w w':=by
 obtain ⟨Ar,cr,rfl⟩:=Tab.form (hv.tab (jha.refl _ _ _))
 have HFQ:Hid (jri m lim rels x=((jhb (relL m lim rels) rels.length (clrL x)).bind (jdo m lim rels)).map jao):=Lib.hid rfl
 have HTO:Hid (∀ k y,k<=rels.length->jhb (relL m lim rels) k (clrL x)=some y->LGood g lim y/\(y.lost=false->y.r < y.s.t.length)):=Lib.hid fun k y hk e=>by
   rw [hm] at e
   have h:=jjdb (sub := []) (fun j _=>hr j) (fun j hj=>absurd hj (by simp)) hG.clr (fun _=>hx) hk e
   exact ⟨h.1.good,h.1.lt⟩
 have HCO:Hid (∀ y z,LGood g lim y->(y.lost=false->y.r < y.s.t.length)->jdo m lim rels y=some z->LGood g lim z/\(z.lost=false->z.r < z.s.t.length)):=Lib.hid fun y z hy hl e=>by
   rw [hm] at e
   have h:=jju (sub := []) (fun j _=>hr j) (fun j hj=>absurd hj (by simp)) hy hl e
   exact ⟨h.1.good,h.1.lt⟩
 have HLOSE:=Lib.hid (hS.lose false)
 obtain ⟨-,-,c8,-,c10,-,-,cf,-⟩:=hS.look
 have hf10:=cf 10
 have HG0:Hid (LGood g lim (clrL x)/\((clrL x).lost=false->(clrL x).r < (clrL x).s.t.length)):=Lib.hid ⟨hG.clr,fun _=>hx⟩
 generalize jri m lim rels x=F at *
 have HBW:=Lib.hid hbw
 have HVV:=Lib.hid hv
 have HRR:=Lib.hid hr
 have HWR:=Lib.hid hwr
 have HM:=Lib.hid hm
 have hrl0:(0:Int)<=(rels.length:Int):=Int.natCast_nonneg _
 have hrl1:(rels.length:Int)<=100000:=by omega
 clear hG hS hbw hv hr hwr hm cf hx
 go_enter Try.func157,Try.ntmps157
 go_wp2_with fail
 have hst1:=HLOSE.out
 generalize w.setCell ⟨b,10,none⟩ (.bool false)=w1 at *
 have HS1:Hid (LkF K (.slice Ar rels.length cr) g base b m lim w1 (clrL x)):=Lib.hid hst1.1
 have HK1:=Lib.hid hst1.2
 clear hst1 HLOSE c10 hf10 c8
 go_loopw [12] (fun i wr=>∃ (k:Nat) (y:LS),i=.int .i64 (k:Int)/\k<=rels.length/\Hid (jhb (relL m lim rels) k (clrL x)=some y/\LkF K (.slice Ar rels.length cr) g base b m lim wr y/\LGood g lim y/\(y.lost=false->y.r < y.s.t.length))/\Hid (jha base K w wr)) (fun i _=>rels.length - (intOf i).toNat)
 case atStart=>exact ⟨0,clrL x,rfl,Nat.zero_le _,Lib.hid ⟨rfl,HS1.out,HG0.out.1,HG0.out.2⟩,HK1⟩
 case round =>
   clear HS1 HK1 HG0
   obtain ⟨k,y,rfl,hk,HI,HB⟩:=hrel
   have hk0:(0:Int)<=(k:Int):=Int.natCast_nonneg _
   obtain ⟨⟨A2,cr2,c2⟩,-,c8,c9,c10,-,-,cf,hn1⟩:=HI.out.2.1.look
   have hr0:(0:Int)<=(y.r:Int):=Int.natCast_nonneg _
   have HALL:Hid (y.lost=false->∀ q,Calls Try.prog 198 #[.pointer (some ⟨b,0,none⟩),.int .i64 (y.r:Int)] (wr.drewN q) fun e w'=>e=.returned (.bool (decide (y.s.rp y.r=y.r)))/\wr.drewN q=w'):=Lib.hid fun hl q=>((HI.out.2.1.below (below_drewN (Below.refl _ _) q)).alive (HI.out.2.2.2 hl)).mono fun e w' ⟨h1,h2⟩=>⟨h1,h2.symm⟩
   have HKD:Hid (∀ q,LkF K (.slice Ar rels.length cr) g base b m lim (wr.drewN q) y/\jha base K w (wr.drewN q)):=Lib.hid fun q=>⟨HI.out.2.1.below (below_drewN (Below.refl _ _) q),HB.out.trans ⟨below_drewN (Below.refl _ _) _,fun _ _=>rfl⟩⟩
   by_cases hlt:k < rels.length
   · have hltI : (k:Int) < (rels.length:Int):=by omega
     obtain ⟨bs,os,cr2,u,hvr,hcell⟩:=HVV.out.at_ hlt
     cases hvr
     obtain ⟨hu0,hI0⟩:=hcell wr HB.out
     obtain ⟨Au,cu,rfl,-,-,-⟩:=hI0.open_
     have HCELL:=Lib.hid hcell
     clear hcell hI0
     have HOP:Hid (jhb (relL m lim rels) (k + 1) (clrL x)=relL m lim rels k y):=Lib.hid (by rw [jbb,HI.out.1]; rfl)
     cases hlo:y.lost with
     | true =>
       rw [hlo] at c10
       have HOP2:Hid (jhb (relL m lim rels) (k + 1) (clrL x)=some y):=Lib.hid (by rw [HOP.out]; unfold relL; rw [if_neg (by rw [hlo]; simp)])
       clear HALL
       generalize (rels.getD k []).length=lu at *
       go_wp2_with fail
       go_quiet (fail)
       go_wp2_with fail
       go_roundw
       case rel=>exact ⟨k + 1,y,by go_num,by omega,Lib.hid ⟨HOP2.out,(HKD.out _).1,HI.out.2.2⟩,Lib.hid (HKD.out _).2⟩
       case measure=>simp [intOf]; omega
     | false =>
       rw [hlo] at c10
       have HAL:=Lib.hid (HALL.out hlo)
       have HLT:=Lib.hid (HI.out.2.2.2 hlo)
       clear HALL
       by_cases hal:y.s.rp y.r=y.r
       · rw [decide_eq_true hal] at HAL
         have HRL:Hid (relL m lim rels k y=Ct.fillL m lim rels y (rels.getD k [])):=Lib.hid (by unfold relL; rw [if_pos ⟨hlo,hal⟩])
         have HFI:=Lib.hid (fun q=>jnq K (.slice (some ⟨bs,os,none⟩) rels.length cr) g m base b lim HM.out (wr.drewN q) y rels (.slice Au (rels.getD k []).length cu) (rels.getD k []) (HKD.out q).1 HI.out.2.2.1 (fun _=>⟨HLT.out,hal⟩) (Nat.le_trans HBW.out (HKD.out q).2.size) hlim (fun W hW=>HVV.out.tab ((HKD.out q).2.trans hW)) HRR.out HWR.out (fun W hW=>(HCELL.out W ((HKD.out q).2.trans hW)).2) (HRR.out k) (HWR.out k))
         cases hfl:Ct.fillL m lim rels y (rels.getD k []) with
         | none =>
           rw [hfl] at HFI HRL
           have HE:Hid (F=none):=Lib.hid (by rw [HFQ.out,jxd (k:=k + 1) (by rw [HOP.out,HRL.out]) rels.length (by omega)]; rfl)
           have HFP:Hid (∀ q,Calls Try.prog 156 #[.pointer (some ⟨b,0,none⟩),.slice Au (rels.getD k []).length cu] (wr.drewN q) fun e w'=>e=.panicked jug/\jha base K (wr.drewN q) w'):=Lib.hid fun q=>(HFI.out q).mono fun e w' ⟨h1,h2⟩=>by
             rcases h1 with ⟨y1,h1,-⟩ | ⟨-,h1⟩
             · cases h1
             · exact ⟨h1,h2⟩
           clear HFI hfl hal
           generalize (rels.getD k []).length=lu at *
           go_wp2_with fail
           go_quiet ((go_at_call 198; exact jcf (HAL.out _)))
           go_wp2_with (go_at_call 156; (with_reducible refine (HFP.out _).mono ?_); rintro E w2 ⟨rfl,hb2⟩; have HB2:=Lib.hid ((HKD.out _).2.trans hb2); clear hb2)
           exact ⟨rfl,.inr ⟨HE.out,rfl⟩,HB2.out⟩
         | some y1 =>
           rw [hfl] at HFI HRL
           have HOP2:Hid (jhb (relL m lim rels) (k + 1) (clrL x)=some y1):=Lib.hid (by rw [HOP.out,HRL.out])
           have HN:=Lib.hid (HTO.out (k + 1) y1 (by omega) HOP2.out)
           have HFP:Hid (∀ q,Calls Try.prog 156 #[.pointer (some ⟨b,0,none⟩),.slice Au (rels.getD k []).length cu] (wr.drewN q) fun e w'=>e=.returned (.tuple #[])/\LkF K (.slice (some ⟨bs,os,none⟩) rels.length cr) g base b m lim w' y1/\jha base K (wr.drewN q) w'):=Lib.hid fun q=>(HFI.out q).mono fun e w' ⟨h1,h2⟩=>by
             rcases h1 with ⟨y2,h1,h3,h4⟩ | ⟨h1,-⟩
             · cases h1
               exact ⟨h3,h4,h2⟩
             · cases h1
           clear HFI hfl hal
           generalize (rels.getD k []).length=lu at *
           go_wp2_with fail
           go_quiet ((go_at_call 198; exact jcf (HAL.out _)))
           go_wp2_with (go_at_call 156; (with_reducible refine (HFP.out _).mono ?_); rintro E w2 ⟨rfl,hs2,hb2⟩; have HS2:=Lib.hid hs2; have HB2:=Lib.hid ((HKD.out _).2.trans hb2); clear hs2 hb2)
           go_roundw
           case rel=>exact ⟨k + 1,y1,by go_num,by omega,Lib.hid ⟨HOP2.out,HS2.out,HN.out⟩,HB2⟩
           case measure=>simp [intOf]; omega
       · rw [decide_eq_false hal] at HAL
         have HOP2:Hid (jhb (relL m lim rels) (k + 1) (clrL x)=some y):=Lib.hid (by rw [HOP.out]; unfold relL; rw [if_neg (fun h=>hal h.2)])
         clear hal
         generalize (rels.getD k []).length=lu at *
         go_wp2_with fail
         go_quiet ((go_at_call 198; exact jcf (HAL.out _)))
         go_wp2_with fail
         go_roundw
         case rel=>exact ⟨k + 1,y,by go_num,by omega,Lib.hid ⟨HOP2.out,(HKD.out _).1,HI.out.2.2⟩,Lib.hid (HKD.out _).2⟩
         case measure=>simp [intOf]; omega
   · obtain rfl:rels.length=k:=by omega
     clear hlt hk
     have HFR:Hid (F=(jdo m lim rels y).map jao):=Lib.hid (by rw [HFQ.out,HI.out.1]; rfl)
     cases hlo:y.lost with
     | true =>
       rw [hlo] at c10
       have HE:Hid (F=some y):=Lib.hid (by rw [HFR.out]; unfold jdo jao; rw [if_neg (by rw [hlo]; simp)]; simp [hlo])
       clear HALL
       go_wp2_with fail
       go_quiet (fail)
       go_wp2_with fail
       go_end0
       exact ⟨.inl ⟨y,HE.out,(by first | rfl | trivial),(HKD.out _).1⟩,(HKD.out _).2⟩
     | false =>
       rw [hlo] at c10
       have HAL:=Lib.hid (HALL.out hlo)
       have HLT:=Lib.hid (HI.out.2.2.2 hlo)
       have hrI:(y.r:Int)<=1000:=by have:=HLT.out; omega
       clear HALL
       by_cases hal:y.s.rp y.r=y.r
       · rw [decide_eq_true hal] at HAL
         have HCL:Hid (jdo m lim rels y=colL m lim rels y 0):=Lib.hid (by unfold jdo; rw [if_pos ⟨hlo,hal⟩])
         have HFI:=Lib.hid (fun q=>jir K (.slice Ar rels.length cr) g m base b lim HM.out (wr.drewN q) y rels (HKD.out q).1 HI.out.2.2.1 (fun _=>⟨HLT.out,hal⟩) (Nat.le_trans HBW.out (HKD.out q).2.size) hlim (fun W hW=>HVV.out.tab ((HKD.out q).2.trans hW)) HRR.out HWR.out)
         cases hfl:colL m lim rels y 0 with
         | none =>
           rw [hfl] at HFI HCL
           have HE:Hid (F=none):=Lib.hid (by rw [HFR.out,HCL.out]; rfl)
           have HFP:Hid (∀ q,Calls Try.prog 202 #[.pointer (some ⟨b,0,none⟩)] (wr.drewN q) fun e w'=>e=.panicked jug/\jha base K (wr.drewN q) w'):=Lib.hid fun q=>(HFI.out q).mono fun e w' ⟨h1,h2⟩=>by
             rcases h1 with ⟨y1,h1,-⟩ | ⟨-,h1⟩
             · cases h1
             · exact ⟨h1,h2⟩
           clear HFI hfl hal
           go_wp2_with fail
           go_quiet ((go_at_call 198; exact jcf (HAL.out _)))
           go_wp2_with (go_at_call 202; (with_reducible refine (HFP.out _).mono ?_); rintro E w2 ⟨rfl,hb2⟩; have HB2:=Lib.hid ((HKD.out _).2.trans hb2); clear hb2)
           exact ⟨rfl,.inr ⟨HE.out,rfl⟩,HB2.out⟩
         | some z =>
           rw [hfl] at HFI HCL
           have HFZ:Hid (F=some (jao z)):=Lib.hid (by rw [HFR.out,HCL.out]; rfl)
           have HZ:=Lib.hid (HCO.out y z HI.out.2.2.1 HI.out.2.2.2 HCL.out)
           have HFP:Hid (∀ q,Calls Try.prog 202 #[.pointer (some ⟨b,0,none⟩)] (wr.drewN q) fun e w'=>e=.returned (.tuple #[])/\LkF K (.slice Ar rels.length cr) g base b m lim w' z/\jha base K (wr.drewN q) w'):=Lib.hid fun q=>(HFI.out q).mono fun e w' ⟨h1,h2⟩=>by
             rcases h1 with ⟨y2,h1,h3,h4⟩ | ⟨h1,-⟩
             · cases h1
               exact ⟨h3,h4,h2⟩
             · cases h1
           clear HFI hfl hal
           cases hzl:z.lost with
           | true =>
             have HE:Hid (F=some z):=Lib.hid (by rw [HFZ.out]; unfold jao; rw [if_pos hzl])
             go_wp2_with fail
             go_quiet ((go_at_call 198; exact jcf (HAL.out _)))
             go_wp2_with (go_at_call 202; (with_reducible refine (HFP.out _).mono ?_); rintro E w2 ⟨rfl,hs2,hb2⟩
                          have e10:=hs2.look.2.2.2.2.1
                          rw [hzl] at e10
                          have HS2:=Lib.hid hs2; have HB2:=Lib.hid ((HKD.out _).2.trans hb2); clear hs2 hb2)
             go_end0
             exact ⟨.inl ⟨z,HE.out,(by first | rfl | trivial),HS2.out⟩,HB2.out⟩
           | false =>
             have HE:Hid (F=some { z with r:=z.r + 1 }):=Lib.hid (by rw [HFZ.out]; unfold jao; rw [if_neg (by rw [hzl]; simp)])
             have hz0:(0:Int)<=(z.r:Int):=Int.natCast_nonneg _
             have HZL:Hid (z.r < z.s.t.length):=Lib.hid (HZ.out.2 hzl)
             go_wp2_with fail
             go_quiet ((go_at_call 198; exact jcf (HAL.out _)))
             go_wp2_with (go_at_call 202; (with_reducible refine (HFP.out _).mono ?_); rintro E w2 ⟨rfl,hs2,hb2⟩
                          obtain ⟨-,-,-,e9,e10,-,-,ef,e13⟩:=hs2.look
                          have ef9:=ef 9
                          rw [hzl] at e10
                          have hz1:(z.r:Int)<=1000:=by have:=HZL.out; omega
                          have HS2:=Lib.hid hs2; have HB2:=Lib.hid ((HKD.out _).2.trans hb2); clear hs2 hb2 ef)
             go_end0
             have h9:=HS2.out.goto (z.r + 1)
             exact ⟨.inl ⟨_,HE.out,(by first | rfl | trivial),h9.1⟩,HB2.out.trans h9.2⟩
       · rw [decide_eq_false hal] at HAL
         have HE:Hid (F=some { y with r:=y.r + 1 }):=Lib.hid (by rw [HFR.out]; unfold jdo jao; rw [if_neg (fun h=>hal h.2)]; simp [hlo])
         have cf9:=cf 9
         have HGO:=Lib.hid (fun q=>(HKD.out q).1.goto (y.r + 1))
         clear hal cf
         go_wp2_with fail
         go_quiet ((go_at_call 198; exact jcf (HAL.out _)))
         go_wp2_with fail
         go_end0
         exact ⟨.inl ⟨_,HE.out,(by first | rfl | trivial),(HGO.out _).1⟩,(HKD.out _).2.trans (HGO.out _).2⟩
end Go.Proofs
namespace Go.Proofs.Ct
def Sim (L:Nat) (mk:St->LS) (o:Option St) (p:Option LS):Prop:=(∀ s,o=some s->p=some (mk s))/\∀ z,p=some z->z.looks=L->∃ s,o=some s/\z=mk s
section
variable {g lim:Nat} {rels sub:List W} {x y z:LS}
theorem jdp {f:Nat->St->Option St} {h:Nat->LS->Option LS} {mk:St->LS} {L n:Nat} {Q:LS->Prop} {x0:LS} {s0:St} (h0:mk s0=x0) (hQ0:Q x0) (hL:x0.looks=L)
   (hstep:∀ i s,i < n->Q (mk s)->Sim L mk (f i s) (h i (mk s))) (hpres:∀ i y z,i < n->Q y->h i y=some z->Q z/\y.looks<=z.looks):∀ k,k<=n->Sim L mk (jhb f k s0) (jhb h k x0)/\∀ y,jhb h k x0=some y->Q y/\L<=y.looks
 | 0,_=>⟨⟨fun s e=>by cases e; show some x0=some (mk s0); rw [h0],fun z e _=>by cases e; exact ⟨s0,rfl,h0.symm⟩⟩,fun y e=>by cases e; exact ⟨hQ0,by omega⟩⟩
 | k + 1,hk=>by
   obtain ⟨⟨a1,a2⟩,a3⟩:=jdp h0 hQ0 hL hstep hpres k (by omega)
   refine ⟨⟨fun s e => ?_,fun z e hz => ?_⟩,fun y e => ?_⟩
   · rw [jbb] at e ⊢
     obtain ⟨s1,e1,e2⟩:=Option.bind_eq_some_iff.1 e
     have e3:=a1 s1 e1
     rw [e3]
     exact (hstep k s1 (by omega) (a3 _ e3).1).1 s e2
   · rw [jbb] at e ⊢
     obtain ⟨y,e1,e2⟩:=Option.bind_eq_some_iff.1 e
     obtain ⟨q1,q2⟩:=a3 y e1
     have h1:=(hpres k y z (by omega) q1 e2).2
     obtain ⟨s1,e3,rfl⟩:=a2 y e1 (by omega)
     rw [e3]
     exact (hstep k s1 (by omega) q1).2 z e2 hz
   · rw [jbb] at e
     obtain ⟨y1,e1,e2⟩:=Option.bind_eq_some_iff.1 e
     obtain ⟨q1,q2⟩:=a3 y1 e1
     obtain ⟨q3,q4⟩:=hpres k y1 y (by omega) q1 e2
     exact ⟨q3,by omega⟩
def setL (x:LS) (s:St):LS := { x with s:=s }
theorem jcu (hr:∀ j,j < rels.length->LOk g (rels.getD j [])) (hs:∀ j,j < sub.length->LOk g (sub.getD j [])) {w:W} (hw:LOk g w):∀ (n:Nat) {x:LS},lpot lim x<=n->LGood g lim x->jrf x->x.lost=false->Fit rels sub x w->Sim x.looks (setL x) (jvg (2 * g) lim x.s x.r w) (fillL (2 * g) lim rels x w)
 | 0,x,hn,_,_,_,_=>by unfold lpot at hn; omega
 | n + 1, x, hn,h,hl,hlo,hfit=>by
   obtain ⟨h1,h2⟩:=hl hlo
   rw [jwm hr hw h hl,jns h.good.n2,if_neg (by rw [hlo]; simp)]
   have hsr:=(jhe h.good.rest h1 h2 hw).2
   cases hsc:jvc (2 * g) x.s x.r w with
   | mk s' o =>
     cases o with
     | none=>exact ⟨fun s e=>by cases e; rfl,fun z e _=>by cases e; exact ⟨s',rfl,rfl⟩⟩
     | some uc =>
       obtain ⟨u,c⟩:=uc
       simp only
       obtain ⟨-,b2,b3,b4,b5⟩:=hsr s' u c hsc
       have hn2:=h.good.n2
       by_cases hf:x.s.t.length < lim
       · rw [if_pos hf,if_neg (by omega)]
         obtain ⟨c1,c2,c3⟩:=h.defn b2 b3 b4 b5 hf
         exact jcu hr hs hw n (by omega) c1 (c2 hl) hlo hfit
       · rw [if_neg hf,if_pos (by omega)]
         refine ⟨fun s e=>(by cases e),fun z e hz => ?_⟩
         cases hy:jxe (2 * g) rels x with
         | none=>rw [hy] at e; cases e
         | some y =>
           rw [hy] at e
           simp only at e
           obtain ⟨c1,c2,c3,-⟩:=jod hr h h1 hy
           have c4:=LTo.room (sub:=sub) hr hs h hlo h1 hy
           have c5:=(jdi (sub:=sub) hr hs hw _ (Nat.le_refl _) c1 c2 (by
             rcases hfit with hf | ⟨hf1,hf2⟩
             · exact .inl hf
             · exact .inr ⟨(c4.zero hf1 hlo).1,hf2⟩) z e).1.looks
           omega
theorem jpfb (hr:∀ j,j < rels.length->LOk g (rels.getD j [])) (hs:∀ j,j < sub.length->LOk g (sub.getD j [])) (h:LGood g lim x) (hl:jrf x) (hlo:x.lost=false):∀ c,c<=2 * g ->
   (∀ s,jhb (colS (2 * g) lim x.r) c x.s=some s->colL (2 * g) lim rels x 0=colL (2 * g) lim rels (setL x s) c/\LGood g lim (setL x s)/\jrf (setL x s)) /\
   (∀ y,colL (2 * g) lim rels x 0=some y->y.looks=x.looks->∃ s,jhb (colS (2 * g) lim x.r) c x.s=some s/\colL (2 * g) lim rels (setL x s) c=some y)
 | 0,_=>⟨fun s e=>by cases e; exact ⟨rfl,h,hl⟩,fun y e _=>⟨x.s,rfl,e⟩⟩
 | c + 1,hc=>by
   obtain ⟨a1,a2⟩:=jpfb hr hs h hl hlo c (by omega)
   have one:∀ s1,LGood g lim (setL x s1)->jrf (setL x s1)->(∀ s,colS (2 * g) lim x.r c s1=some s->colL (2 * g) lim rels (setL x s1) c=colL (2 * g) lim rels (setL x s) (c + 1)/\LGood g lim (setL x s)/\jrf (setL x s)) /\
       (∀ y,colL (2 * g) lim rels (setL x s1) c=some y->y.looks=x.looks->∃ s,colS (2 * g) lim x.r c s1=some s/\colL (2 * g) lim rels (setL x s) (c + 1)=some y):=fun s1 g1 g2=>by
     obtain ⟨h1,h2⟩:=g2 hlo
     have h1:x.r < s1.t.length:=h1
     have h2:s1.rp x.r=x.r:=h2
     have hn2:s1.t.length<=lim:=g1.good.n2
     have hlo' : (setL x s1).lost=false:=hlo
     rw [jlj hr g1 g2,if_neg (by rw [hlo']; simp; omega)]
     unfold colS
     by_cases h0:0<=s1.t.at x.r c
     · have e0:0<=(setL x s1).s.t.at (setL x s1).r c:=h0
       rw [if_pos e0,if_neg (by intro hh; omega)]
       exact ⟨fun s e=>by cases e; exact ⟨rfl,g1,g2⟩,fun y e _=>⟨s1,rfl,e⟩⟩
     · have e0 : ¬ 0<=(setL x s1).s.t.at (setL x s1).r c:=h0
       rw [if_neg e0,if_pos ⟨h2,by omega⟩]
       by_cases hf:s1.t.length < lim
       · have ef:(setL x s1).s.t.length < lim:=hf
         rw [if_pos ef,if_neg (by omega)]
         obtain ⟨c1,c2,c3⟩:=g1.defn (u:=x.r) (c:=c) h1 (by omega) h2 (by show s1.t.at x.r c < 0; omega) hf
         exact ⟨fun s e=>by cases e; exact ⟨rfl,c1,c2 g2⟩,fun y e _=>⟨_,rfl,e⟩⟩
       · have ef : ¬ (setL x s1).s.t.length < lim:=hf
         rw [if_neg ef,if_pos (by omega)]
         refine ⟨fun s e=>(by cases e),fun y e hy => ?_⟩
         cases hz:jxe (2 * g) rels (setL x s1) with
         | none=>rw [hz] at e; cases e
         | some z =>
           rw [hz] at e
           simp only at e
           obtain ⟨d1,d2,d3,-⟩:=jod hr g1 h1 hz
           have d3:z.looks=x.looks + 1:=d3
           have d5:=(jsq (sub:=sub) hr hs _ (Nat.le_refl _) d1 d2 (fun _ d hd=>absurd hd (by omega)) y e).1.looks
           omega
   refine ⟨fun s e => ?_,fun y e hy => ?_⟩
   · rw [jbb] at e
     obtain ⟨s1,e1,e2⟩:=Option.bind_eq_some_iff.1 e
     obtain ⟨b1,b2,b3⟩:=a1 s1 e1
     obtain ⟨d1,d2,d3⟩:=(one s1 b2 b3).1 s e2
     exact ⟨b1.trans d1,d2,d3⟩
   · obtain ⟨s1,e1,e2⟩:=a2 y e hy
     obtain ⟨b1,b2,b3⟩:=a1 s1 e1
     obtain ⟨s,e3,e4⟩:=(one s1 b2 b3).2 y e2 hy
     rw [jbb,e1]
     exact ⟨s,e3,e4⟩
theorem jss {m r:Nat} {s:St} (h:s.rp r ≠ r):∀ k,jhb (colS m lim r) k s=some s
 | 0=>rfl
 | k + 1=>by
   rw [jbb,jss h k]
   show colS m lim r k s=some s
   unfold colS
   rw [if_neg (fun h'=>h h'.1)]
theorem jhab (hr:∀ j,j < rels.length->LOk g (rels.getD j [])) (hs:∀ j,j < sub.length->LOk g (sub.getD j [])) (h:LGood g lim x) (hx:x.r < x.s.t.length) (hlo:x.lost=false):Sim x.looks (setL x) (jhb (colS (2 * g) lim x.r) (2 * g) x.s) (jdo (2 * g) lim rels x):=by
 unfold jdo
 by_cases hl:x.s.rp x.r=x.r
 · rw [if_pos ⟨hlo,hl⟩]
   obtain ⟨a,b⟩:=jpfb (sub:=sub) hr hs h (fun _=>⟨hx,hl⟩) hlo (2 * g) (Nat.le_refl _)
   have stop:∀ s,LGood g lim (setL x s)->jrf (setL x s)->colL (2 * g) lim rels (setL x s) (2 * g)=some (setL x s):=fun s g1 g2=>by rw [jlj hr g1 g2,if_pos (.inr (Nat.le_refl _))]
   refine ⟨fun s e => ?_,fun z e hz => ?_⟩
   · obtain ⟨c1,c2,c3⟩:=a s e
     rw [c1,stop s c2 c3]
   · obtain ⟨s,e1,e2⟩:=b z e hz
     obtain ⟨c1,c2,c3⟩:=a s e1
     rw [stop s c2 c3] at e2
     cases e2
     exact ⟨s,e1,rfl⟩
 · rw [if_neg (fun h'=>hl h'.2),jss hl]
   exact ⟨fun s e=>by cases e; rfl,fun z e _=>by cases e; exact ⟨x.s,rfl,rfl⟩⟩
def setR (x:LS) (r:Nat) (s:St):LS:=⟨s,r,false,x.removed,x.looks⟩
theorem jez (hr:∀ j,j < rels.length->LOk g (rels.getD j [])) (h:LGood g lim x) (hx:x.r < x.s.t.length):Sim x.looks (setR x (x.r + 1)) (rowS (2 * g) lim rels x.r x.s) (jri (2 * g) lim rels x):=by
 have hs0:∀ j,j < ([]:List W).length->LOk g (([]:List W).getD j []):=fun j hj=>absurd hj (by simp)
 have hA:=jdp (f:=relS (2 * g) lim rels x.r) (h:=relL (2 * g) lim rels) (mk:=setL (clrL x)) (L:=x.looks) (n:=rels.length) (Q:=fun y=>LTo g lim rels [] (clrL x) y) (x0:=clrL x) (s0:=x.s) rfl (.refl h.clr fun _=>hx) rfl
   (fun i s hi hq=>by
     unfold relS relL
     have hlt:x.r < s.t.length:=hq.lt rfl
     by_cases hl:s.rp x.r=x.r
     · have hl' : (setL (clrL x) s).lost=false/\(setL (clrL x) s).s.rp (setL (clrL x) s).r=(setL (clrL x) s).r:=⟨rfl,hl⟩
       rw [if_pos hl,if_pos hl']
       exact jcu (sub := []) hr hs0 (hr i hi) _ (Nat.le_refl _) hq.good (fun _=>⟨hlt,hl⟩) rfl (.inl ⟨i,hi,rfl⟩)
     · have hl' : ¬ ((setL (clrL x) s).lost=false/\(setL (clrL x) s).s.rp (setL (clrL x) s).r=(setL (clrL x) s).r):=fun h'=>hl h'.2
       rw [if_neg hl,if_neg hl']
       exact ⟨fun s' e=>by cases e; rfl,fun z e _=>by cases e; exact ⟨s,rfl,rfl⟩⟩)
   (fun i y z hi hq e=>by
     have h1:jhb (relL (2 * g) lim rels) 1 y=relL (2 * g) lim rels 0 y:=rfl
     unfold relL at e
     by_cases hl:y.lost=false/\y.s.rp y.r=y.r
     · rw [if_pos hl] at e
       have:=(jdi (sub := []) hr hs0 (hr i hi) _ (Nat.le_refl _) hq.good (fun h'=>⟨hq.lt h',hl.2⟩) (.inl ⟨i,hi,rfl⟩) z e).1
       exact ⟨hq.trans this,this.looks⟩
     · rw [if_neg hl] at e
       cases e
       exact ⟨hq,Nat.le_refl _⟩) rels.length (Nat.le_refl _)
 obtain ⟨⟨a1,a2⟩,a3⟩:=hA
 unfold rowS jri
 refine ⟨fun s e => ?_,fun z e hz => ?_⟩
 · obtain ⟨s1,e1,e2⟩:=Option.bind_eq_some_iff.1 e
   have e3:=a1 s1 e1
   obtain ⟨q1,-⟩:=a3 _ e3
   rw [e3]
   have e4:=(jhab (sub := []) hr hs0 q1.good (q1.lt rfl) rfl).1 s e2
   rw [Option.bind_some,e4]
   rfl
 · obtain ⟨y1,e1,rfl⟩:=Option.map_eq_some_iff.1 e
   obtain ⟨y0,e0,e2⟩:=Option.bind_eq_some_iff.1 e1
   obtain ⟨q1,q2⟩:=a3 _ e0
   have b1:=(jju (sub := []) hr hs0 q1.good q1.lt e2).1
   have hk:(jao y1).looks=y1.looks:=by unfold jao; split <;> rfl
   have h1:=b1.looks
   obtain ⟨s1,e3,rfl⟩:=a2 y0 e0 (by omega)
   obtain ⟨s2,e4,rfl⟩:=(jhab (sub := []) hr hs0 q1.good (q1.lt rfl) rfl).2 y1 e2 (by show y1.looks=x.looks; omega)
   exact ⟨s2,by rw [e3]; exact e4,rfl⟩
theorem jox (hr:∀ j,j < rels.length->LOk g (rels.getD j [])) (h:LGood g lim x) (hr0:x.r=0):∀ k,k<=lim ->
   (∀ s,jhb (jtg (2 * g) lim rels) k x.s=some s->∃ u:LS,runL (2 * g) lim rels x=runL (2 * g) lim rels u/\LGood g lim u/\u.s=s/\u.looks=x.looks/\u.removed=x.removed/\u.r=min k s.t.length) /\
   (∀ y,runL (2 * g) lim rels x=some y->y.looks=x.looks->∃ s,jhb (jtg (2 * g) lim rels) k x.s=some s)
 | 0,_=>⟨fun s e=>by cases e; exact ⟨x,rfl,h,rfl,rfl,rfl,by rw [hr0,Nat.zero_min]⟩,fun y e _=>⟨x.s,rfl⟩⟩
 | k + 1,hk=>by
   obtain ⟨a1,a2⟩:=jox hr h hr0 k (by omega)
   have hs0:∀ j,j < ([]:List W).length->LOk g (([]:List W).getD j []):=fun j hj=>absurd hj (by simp)
   refine ⟨fun s e => ?_,fun y e hy => ?_⟩
   · rw [jbb] at e
     obtain ⟨s1,e1,e2⟩:=Option.bind_eq_some_iff.1 e
     obtain ⟨u,u1,u2,rfl,u4,u5,u6⟩:=a1 s1 e1
     unfold jtg at e2
     by_cases hlt:k < u.s.t.length
     · rw [if_pos hlt] at e2
       have hur:u.r=k:=by omega
       rw [<- hur] at e2
       have e3:=(jez hr u2 (by omega)).1 s e2
       obtain ⟨b1,-,-,-,-⟩:=jkm (sub := []) hr hs0 u2 (by omega) e3
       have b2:u.r + 1<=s.t.length:=b1.rr
       refine ⟨_, ?_,b1,rfl,u4,u5, ?_⟩
       · rw [u1,jyi hr u2,if_neg (by omega),e3]
       · show u.r + 1=_
         omega
     · rw [if_neg hlt] at e2
       cases e2
       exact ⟨u,u1,u2,rfl,u4,u5,by omega⟩
   · obtain ⟨s1,e1⟩:=a2 y e hy
     obtain ⟨u,u1,u2,rfl,u4,u5,u6⟩:=a1 s1 e1
     rw [jbb,e1]
     show ∃ s,jtg (2 * g) lim rels k u.s=some s
     unfold jtg
     by_cases hlt:k < u.s.t.length
     · rw [if_pos hlt]
       have hur:u.r=k:=by omega
       rw [u1,jyi hr u2,if_neg (by omega)] at e
       cases hz:jri (2 * g) lim rels u with
       | none=>rw [hz] at e; cases e
       | some z =>
         rw [hz] at e
         simp only at e
         obtain ⟨b1,-,b3,-,-⟩:=jkm (sub := []) hr hs0 u2 (by omega) hz
         have b4:=(jht (sub := []) hr hs0 _ (Nat.le_refl _) b1 y e).2.2.1
         obtain ⟨s2,e3,-⟩:=(jez hr u2 (by omega)).2 z hz (by omega)
         rw [hur] at e3
         exact ⟨s2,e3⟩
     · rw [if_neg hlt]
       exact ⟨u.s,rfl⟩
theorem jfgb (hr:∀ j,j < rels.length->LOk g (rels.getD j [])) (hs:∀ j,j < sub.length->LOk g (sub.getD j [])) (hl:1<=lim):Sim 0 (setL (jpf (2 * g))) (jhb (subS (2 * g) lim sub) sub.length (jwb (2 * g))) (jhb (subL (2 * g) lim rels sub) sub.length (jpf (2 * g))):=by
 refine (jdp (f:=subS (2 * g) lim sub) (h:=subL (2 * g) lim rels sub) (mk:=setL (jpf (2 * g))) (L:=0) (n:=sub.length) (Q:=fun y=>LGood g lim y/\y.r=0/\y.lost=false) (x0:=jpf (2 * g)) (s0:=jwb (2 * g)) rfl ⟨jvs hl,rfl,rfl⟩ rfl
   (fun i s hi hq => ?_) (fun i y z hi hq e => ?_) sub.length (Nat.le_refl _)).1
 · obtain ⟨q1,q2,q3⟩:=hq
   have h0:=rp_zero q1.good.rest q1.good.n1
   exact jcu (sub:=sub) (x:=setL (jpf (2 * g)) s) hr hs (hs i hi) _ (Nat.le_refl _) q1 (fun _=>⟨q1.good.n1,h0⟩) rfl (.inr ⟨rfl,i,hi,rfl⟩)
 · obtain ⟨q1,q2,q3⟩:=hq
   have h0:=rp_zero q1.good.rest q1.good.n1
   have hn:=q1.good.n1
   have:=(jdi (sub:=sub) hr hs (hs i hi) _ (Nat.le_refl _) q1 (fun _=>by rw [q2]; exact ⟨by omega,h0⟩) (.inr ⟨q2,i,hi,rfl⟩) z e).1
   obtain ⟨c1,c2⟩:=this.zero q2 q3
   exact ⟨⟨this.good,c1,c2⟩,this.looks⟩
theorem jahb (hr:∀ j,j < rels.length->LOk g (rels.getD j [])) (hs:∀ j,j < sub.length->LOk g (sub.getD j [])) (hl:1<=lim) :
   (∀ s,runS (2 * g) lim rels sub=some s->∃ y,jql (2 * g) lim rels sub=some y/\y.s=s/\y.looks=0/\y.removed=0)/\(∀ y,jql (2 * g) lim rels sub=some y->y.looks=0->runS (2 * g) lim rels sub=some y.s):=by
 obtain ⟨a1,a2⟩:=jfgb hr hs hl
 have stop:∀ u:LS,LGood g lim u->u.s.t.length<=u.r->runL (2 * g) lim rels u=some u:=fun u h1 h2=>by rw [jyi hr h1,if_pos h2]
 unfold runS jql
 refine ⟨fun s e => ?_,fun y e hy => ?_⟩
 · obtain ⟨s1,e1,e2⟩:=Option.bind_eq_some_iff.1 e
   have e3:=a1 s1 e1
   obtain ⟨b1,b2,b3,-,-⟩:=jet hr hs hl (Nat.le_refl _) e3
   obtain ⟨u,u1,u2,rfl,u4,u5,u6⟩:=(jox hr b1 b2 lim (Nat.le_refl _)).1 s e2
   have hn:=u2.good.n2
   refine ⟨u, ?_,rfl,u4,u5⟩
   rw [e3]
   show runL (2 * g) lim rels _=some u
   rw [u1]
   exact stop u u2 (by omega)
 · obtain ⟨x1,e1,e2⟩:=Option.bind_eq_some_iff.1 e
   obtain ⟨b1,b2,b3,-,-⟩:=jet hr hs hl (Nat.le_refl _) e1
   have b4:=(jht (sub:=sub) hr hs _ (Nat.le_refl _) b1 y e2).2.2.1
   obtain ⟨s1,e3,rfl⟩:=a2 x1 e1 (by omega)
   rw [e3]
   have hlk:(setL (jpf (2 * g)) s1).looks=0:=rfl
   obtain ⟨c1,c2⟩:=jox hr b1 b2 lim (Nat.le_refl _)
   obtain ⟨s,e4⟩:=c2 y e2 (by rw [hlk]; exact hy)
   obtain ⟨u,u1,u2,rfl,u4,u5,u6⟩:=c1 s e4
   have hn:=u2.good.n2
   rw [u1,stop u u2 (by omega)] at e2
   cases e2
   exact e4
end
end Go.Proofs.Ct
namespace Go.Proofs.Ct
section
variable {g lim:Nat} {rels sub:List W} {t u:Tb}
theorem jhs {φ:Nat->Nat} {n k:Nat} (hl:∀ x,x < n->φ x < k) (hi:∀ x y,x < n->y < n->φ x=φ y->x=y):n<=k:=by
 have h:=jtl (a:=(List.range n).map φ) (b:=List.range k) (jmn (fun x hx y hy=>hi x y (List.mem_range.1 hx) (List.mem_range.1 hy)) List.nodup_range) fun x hx=>by
   obtain ⟨y,hy,rfl⟩:=List.mem_map.1 hx
   exact List.mem_range.2 (hl y (List.mem_range.1 hy))
 simpa using h
theorem Coset.eq (h:Coset g rels sub t) (k:Coset g rels sub u) (hr:∀ j,j < rels.length->LOk g (rels.getD j [])) (hs:∀ j,j < sub.length->LOk g (sub.getD j [])):t=u:=by
 obtain ⟨φ,h1,e1⟩:=h.mapTo hr hs k.full k.rel (b:=0) k.full.good.n1 k.subc
 obtain ⟨ψ,h2,e2⟩:=k.mapTo hr hs h.full h.rel (b:=0) h.full.good.n1 h.subc
 have i1:=h1.inj h.full h2 (by rw [e1,e2])
 have i2:=h2.inj k.full h1 (by rw [e2,e1])
 exact jmkb h.full k.full h.std k.std h1 e1 i1 (Nat.le_antisymm (jhs h1.lt i1) (jhs h2.lt i2))
end
end Go.Proofs.Ct
namespace Go.Proofs
open Go.RowKit Go.Shelf Go.Proofs.Ct Go.Maps
def jjh (g:Int) (rels sub:List W) (limit:Int):Tb × (Int × Int × Int) × Int :=
 if jdc g rels sub limit ≠ 0 then ([],(0,0,0),jdc g rels sub limit) else
 match jql (2 * g.toNat) limit.toNat rels sub with
 | none=>([],(0,0,0),12)
 | some y=>((stdE g (tabS y.s) 0).1,(((y.s.t.length + y.removed:Nat):Int),y.s.most,(y.looks:Int)),0)
theorem jdeb {g:Int} {rels sub:List W} {limit:Int} (h:jdc g rels sub limit ≠ 0):jjh g rels sub limit=([],(0,0,0),jdc g rels sub limit):=if_pos h
theorem jgs {g lim:Nat} {rels sub:List W} (h:jdc g rels sub lim=0) (h3:jql (2 * g) lim rels sub=none):jjh g rels sub lim=([],(0,0,0),12):=by
 unfold jjh; rw [if_neg (by rw [h]; simp),Int.toNat_natCast,Int.toNat_natCast,h3]
theorem jfs {g lim:Nat} {rels sub:List W} {y:LS} (h:jdc g rels sub lim=0) (h3:jql (2 * g) lim rels sub=some y):jjh g rels sub lim=((stdE g (tabS y.s) 0).1,(((y.s.t.length + y.removed:Nat):Int),y.s.most,(y.looks:Int)),0):=by
 unfold jjh; rw [if_neg (by rw [h]; simp),Int.toNat_natCast,Int.toNat_natCast,h3]
theorem jis {g:Nat} {rels sub:List W} {lim:Nat} (hp:presE g rels=0) (hb:jhc g sub (lim:Int)=false):jdc g rels sub lim=0:=by
 unfold jdc
 rw [if_neg (by rw [hp]; simp),Int.toNat_natCast,if_neg (by rw [hb]; simp)]
section
variable {g lim:Nat} {rels sub:List W}
theorem jhw (hg:1<=g/\g<=16) (hr:∀ j,j < rels.length->LOk g (rels.getD j [])) (hs:∀ j,j < sub.length->LOk g (sub.getD j [])) (hgi:jdc g rels sub lim=0) (hl:1<=lim/\lim<=20000) :
   jfd g rels sub (lim:Int)=([],(0,0),12)\/∃ t d k,jfd g rels sub (lim:Int)=(t,(d,k),0)/\Coset g rels sub t:=by
 cases hx:jgf (2 * g) lim rels sub with
 | none=>exact .inl (jtn hgi hx)
 | some f =>
   obtain ⟨-,h1,h2,-⟩:=jkj hg.1 hg.2 hl.2 hl.1 hr hs hx
   exact .inr ⟨_,_,_,jsn hgi hx,by rw [h2]; exact h1⟩
structure LookT (g:Nat) (rels sub:List W) (lim:Nat) (t:Tb) (d k l:Int):Prop where
 coset:Coset g rels sub t
 is:jjh g rels sub (lim:Int)=(t,(d,k,l),0)
 most:k<=lim
 len:(t.length:Int)<=k
 dk:k<=d
 l0:0<=l
 l50:l<=50
 plain:l=0->jme g rels sub (lim:Int)=(t,(d,k),0)
 more:l ≠ 0->jme g rels sub (lim:Int)=([],(0,0),12)
theorem jhbb (hg:1<=g/\g<=16) (hp:presE g rels=0) (hr:∀ j,j < rels.length->LOk g (rels.getD j [])) (hs:∀ j,j < sub.length->LOk g (sub.getD j [])) (hb:jhc g sub (lim:Int)=false) (hl:1<=lim/\lim<=20000) :
   (jjh g rels sub (lim:Int)=([],(0,0,0),12)/\jme g rels sub (lim:Int)=([],(0,0),12))\/∃ t d k l,LookT g rels sub lim t d k l:=by
 have hgi:=jis hp hb
 obtain ⟨b1,b2⟩:=jahb (lim:=lim) hr hs hl.1
 cases hx:jql (2 * g) lim rels sub with
 | none =>
   refine .inl ⟨jgs hgi hx,jbk hp hb ?_⟩
   cases hy:runS (2 * g) lim rels sub with
   | none=>rfl
   | some s =>
     obtain ⟨z,h4,-⟩:=b1 s hy
     rw [hx] at h4
     cases h4
 | some y =>
   obtain ⟨hG,-,h0,h1,h2,h3⟩:=jbm hg.1 hg.2 hl.2 hl.1 hr hs hx
   refine .inr ⟨_,_,_,_,by rw [h2]; exact h1,jfs hgi hx,hG.good.m1, ?_,hG.mi.2,Int.natCast_nonneg _,by have:=hG.lk; omega,fun h => ?_,fun h => ?_⟩
   · rw [h2]
     show ((stdT (tabS y.s) 0).length:Int)<=_
     rw [h3,jqt hG.good.rest]
     exact hG.mi.1
   · have hl0:y.looks=0:=by omega
     rw [jxm hp hb (b2 y hx hl0),h0 hl0]
     rfl
   · cases hy:runS (2 * g) lim rels sub with
     | none=>exact jbk hp hb hy
     | some s =>
       obtain ⟨z,h4,-,h5,-⟩:=b1 s hy
       rw [hx] at h4
       obtain rfl:=Option.some.inj h4
       rw [h5] at h
       exact absurd rfl h
theorem jrhb (hg:1<=g/\g<=16) (hp:presE g rels=0) (hr:∀ j,j < rels.length->LOk g (rels.getD j [])) (hs:∀ j,j < sub.length->LOk g (sub.getD j [])) (hb:jhc g sub (lim:Int)=false) (hl:1<=lim/\lim<=20000) :
   jme g rels sub (lim:Int)=([],(0,0),12)\/∃ t d k,jme g rels sub (lim:Int)=(t,(d,k),0)/\Coset g rels sub t:=by
 cases hx:runS (2 * g) lim rels sub with
 | none=>exact .inl (jbk hp hb hx)
 | some s =>
   obtain ⟨h1,h2,h3⟩:=jpw hg.1 hg.2 hl.2 hl.1 hr hs hx
   exact .inr ⟨_,_,_,jxm hp hb hx,by rw [h2]; exact h1⟩
end
end Go.Proofs
