/- (*coset.state).scan; The reference's Scan; (*coset.state).fill; (*coset.state).run; (*coset.state).table. -/
import Derived.Test.YtmpnengjboabcaaFmCS8
import Derived.Deep.CutBlock
import Derived.Deep.LoopGhost
namespace Go.Proofs
open Go.RowKit Go.Shelf Go.Proofs.Ct Go.Maps
theorem StP.below {base b m lim : Nat} {w w' : World} {s : St} (hS : StP base b m lim w s) (hb : Below w.heap.size w w') : StP base b m lim w' s := by
 obtain ⟨h,P,vr,vp,vq,bl,cs,hB,hC⟩ := hS
 exact ⟨h,P,vr,vp,vq,bl,cs,hB.below hb,hC.below hb⟩
def openV : Option (Nat × Nat) -> Value
 | none => .tuple #[.int .i64 0, .int .i64 0, .bool false]
 | some (f,c) => .tuple #[.int .i64 (f : Int), .int .i64 (c : Int), .bool true]
set_option maxRecDepth 100000 in
set_option maxHeartbeats 4000000 in
theorem scan147_any (g m base b lim r : Nat) (hm : m = 2 * g) (hg : g <= 16) (w : World) (s : St) (u : Value) (ws : W) (hR : Ct.Rest g s) (hS : StP base b m lim w s) (hbw : base <= w.heap.size) (hn : s.t.length <= 1000000) (hu : IntsAt w u ws) (hl : LOk g ws) (hr : r < s.t.length) (hlr : s.rp r = r) :
   Calls Try.prog 208 #[.pointer (some ⟨b,0,none⟩), .int .i64 (r : Int),u] w fun e w' => e = .returned (openV (scanS m s r ws).2) /\ StP base b m lim w' (scanS m s r ws).1 /\ Below base w w' := by
 obtain ⟨Au,cu,rfl,hu1,hu2,hu3⟩ := hu.open_
 have HU := Lib.hid hu3
 have HR := Lib.hid hR
 have HL := Lib.hid hl
 have HLI := Lib.hid hl.inv
 have HM := Lib.hid hm
 have HBW := Lib.hid hbw
 have HS : Hid (∀ q,StP base b m lim (w.drewN q) s) := Lib.hid fun q => hS.below (below_drewN (Below.refl _ _) q)
 have HBE : Hid (∀ q,Below base w (w.drewN q)) := Lib.hid fun q => below_drewN (Below.refl _ _) q
 have HAT : Hid (∀ r c,r < s.t.length -> c < 2 * g -> ∃ gr cr br k,w.cell? ⟨b,2,none⟩ = some (.slice (some ⟨gr,0,none⟩) s.t.length cr) /\ w.cell? ⟨gr,r,none⟩ = some (.slice (some ⟨br,0,none⟩) m k) /\ w.cell? ⟨br,c,none⟩ = some (.int .i64 (s.t.at r c))) := Lib.hid fun r c h1 h2 => by
   obtain ⟨gr,cr,br,k,a1,a2,a3⟩ := hS.at_ hR.inv h1 h2
   rw [<- hm] at a2
   exact ⟨gr,cr,br,k,a1,a2,a3⟩
 have HCO : Hid (∀ (x : Int) n, -(g : Int) <= x /\ x <= g /\ x ≠ 0 -> Calls Try.prog 179 #[.int .i64 x] (w.drewN n) fun e w' => e = .returned (.int .i64 (col x : Nat)) /\ w.drewN n = w') := Lib.hid fun x n h => col133_any _ _ (by omega)
 have HLV : Hid (∀ k,k <= ws.length -> 0 <= leadTo s.t r ws k -> (leadTo s.t r ws k).toNat < s.t.length) := Lib.hid fun k h1 h2 => (lead_live hR hl hr hlr k h1 h2).1
 have HLB : Hid (∀ k,k <= ws.length -> 0 <= leadTo s.t r (Ct.inv ws) k -> (leadTo s.t r (Ct.inv ws) k).toNat < s.t.length) := Lib.hid fun k h1 h2 => (lead_live hR hl.inv hr hlr k (by rw [length_inv]; exact h1) h2).1
 have HCN : Hid (∀ q x y,x < s.t.length -> y < s.t.length -> Calls Try.prog 221 #[.pointer (some ⟨b,0,none⟩), .int .i64 (x : Int), .int .i64 (y : Int)] (w.drewN q) fun e w' => e = .returned (.tuple #[]) /\ StP base b m lim w' (coinS m s x y) /\ Below base (w.drewN q) w') := Lib.hid fun q x y h1 h2 =>
   coincide152_any g m base b lim x y hm _ s hR hg (HS.out q) (Nat.le_trans hbw (HBE.out q).size) h1 h2 hn
 have HJO : Hid (∀ q x c y,x < s.t.length -> y < s.t.length -> c < 2 * g -> Calls Try.prog 210 #[.pointer (some ⟨b,0,none⟩), .int .i64 (x : Int), .int .i64 (c : Int), .int .i64 (y : Int)] (w.drewN q) fun e w' => e = .returned (.tuple #[]) /\ StP base b m lim w' (joinS s x c y) /\ Below base (w.drewN q) w') := Lib.hid fun q x c y h1 h2 h3 =>
   join149_any g base b m lim x c y _ s hR.inv hg (HS.out q) (Nat.le_trans hbw (HBE.out q).size) h1 h2 h3 hn
 have hr0 : (0 : Int) <= (r : Int) := Int.natCast_nonneg _
 have hn0 : (s.t.length : Int) <= 1000000 := by omega
 have hws0 : (0 : Int) <= (ws.length : Int) := Int.natCast_nonneg _
 have hws1 : (ws.length : Int) <= 9223372036854775807 := by omega
 have HRB := Lib.hid (hR.inv.bd)
 clear hS hu hu3 hR hl hm hbw
 go_enter Try.func208,Try.ntmps208
 go_wp2_with fail
 go_loopw [6,9] (fun f i wr => ∃ k z : Nat,i = .int .i64 k /\ k <= ws.length /\ f = .int .i64 (z : Int) /\ z < s.t.length /\ Hid ((z : Int) = leadTo s.t r ws k) /\ Hid (∀ j,j < k -> 0 <= leadTo s.t r ws (j + 1)) /\ ∃ q,wr = w.drewN q) (fun _ i _ => ws.length - (intOf i).toNat)
 case atStart => exact ⟨0,r,rfl,by omega,rfl,hr,Lib.hid rfl,Lib.hid fun j hj => absurd hj (by omega),0,rfl⟩
 case round =>
   obtain ⟨k,z,rfl,hk,rfl,hz,HZ,HJ,q,rfl⟩ := hrel
   have hk0 : (0 : Int) <= (k : Int) := Int.natCast_nonneg _
   have hz0 : (0 : Int) <= (z : Int) := Int.natCast_nonneg _
   have hzI : (z : Int) < (s.t.length : Int) := by omega
   by_cases hlt : k < ws.length
   · have hlt' : (k : Int) < (ws.length : Int) := by omega
     obtain ⟨bw,ow,rfl,hcc⟩ := HU.out (by omega)
     have hcc0 := Lib.hid hcc
     have hck := hcc k hlt
     have hx := HL.out.getD hlt
     have hcx := HL.out.col hlt
     obtain ⟨gr,cr,br,kr,a1,a2,a3⟩ := HAT.out z (col (ws.getD k 0)) hz hcx
     have HNX : Hid (leadTo s.t r ws (k + 1) = s.t.at z (col (ws.getD k 0))) := Lib.hid (by
       rw [leadTo_succ, <- HZ.out,if_neg (by omega),Int.toNat_natCast])
     have hbd := HRB.out z hz _ hcx
     have HC1 : Hid (∀ n,Calls Try.prog 179 #[.int .i64 (ws.getD k 0)] (w.drewN n) fun e w' => e = .returned (.int .i64 (col (ws.getD k 0) : Nat)) /\ w.drewN n = w') := Lib.hid fun n => HCO.out _ n hx
     have hc0 : (0 : Int) <= ((col (ws.getD k 0) : Nat) : Int) := Int.natCast_nonneg _
     have hc1 : ((col (ws.getD k 0) : Nat) : Int) < (m : Int) := by have := HM.out; omega
     clear hcc hx
     by_cases hy : s.t.at z (col (ws.getD k 0)) < 0
     · have HK : Hid (leadTo s.t r ws (k + 1) < 0) := Lib.hid (by rw [HNX.out]; exact hy)
       have HF : Hid (fwd s.t r ws = k) := Lib.hid (fwd_eq (by omega) (.inr HK.out) HJ.out)
       have d1 : ((k : Int) == (ws.length : Int)) = false := by rw [beq_eq_false_iff_ne]; omega
       have HX0 := Lib.hid hcx
       obtain ⟨hy1,hy2⟩ := hbd
       generalize s.t.at z (col (ws.getD k 0)) = y at *
       generalize hce : col (ws.getD k 0) = cx at *
       have HCE := Lib.hid hce
       clear hce
       generalize hxe : ws.getD k 0 = x at *
       have HXQ := Lib.hid hxe
       clear hxe
       go_wp2_with fail
       go_quiet ((go_at_call 179; exact quiet_add_left (HC1.out _)))
       go_wp2_with fail
       go_loopw [10,11] (fun bb jj wr => ∃ (p v : Nat) (J : Int),p <= ws.length /\ jj = .int .i64 J /\ J = (ws.length : Int) - 1 - p /\ bb = .int .i64 (v : Int) /\ v < s.t.length /\ Hid ((v : Int) = leadTo s.t r (Ct.inv ws) p) /\ Hid (∀ j,j < p -> k + j < ws.length /\ 0 <= leadTo s.t r (Ct.inv ws) (j + 1)) /\ ∃ q,wr = w.drewN q) (fun _ j _ => (intOf j + 1).toNat)
       case atStart => exact ⟨0,r,_,by omega,rfl,by omega,rfl,hr,Lib.hid rfl,Lib.hid fun j hj => absurd hj (by omega),(by first | exact ⟨_,rfl⟩ | exact ex_drewN)⟩
       case round =>
         obtain ⟨p,v,J,hp,rfl,hJ,rfl,hv,HV,HP,q2,rfl⟩ := hrel
         have hv0 : (0 : Int) <= (v : Int) := Int.natCast_nonneg _
         have hvI : (v : Int) < (s.t.length : Int) := by omega
         have hzne : ¬ fwd s.t r ws = ws.length := by rw [HF.out]; omega
         by_cases hkp : k + p < ws.length
         · obtain ⟨jn,rfl⟩ : ∃ jn : Nat,J = (jn : Int) := ⟨ws.length - 1 - p,by omega⟩
           have hjn : jn = ws.length - 1 - p := by omega
           have hjl : jn < ws.length := by omega
           have hj0 : (0 : Int) <= (jn : Int) := Int.natCast_nonneg _
           have hj1 : (jn : Int) < (ws.length : Int) := by omega
           have hj2 : (k : Int) <= (jn : Int) := by omega
           have d3 : decide ((k : Int) <= (jn : Int)) = true := decide_eq_true hj2
           have hcj := hcc0.out jn hjl
           have hx2 := HL.out.getD hjl
           have hx2n : -(g : Int) <= -(ws.getD jn 0) /\ -(ws.getD jn 0) <= g /\ -(ws.getD jn 0) ≠ 0 := by omega
           have hcx2 : col (-(ws.getD jn 0)) < 2 * g := by
             rw [col_inv hx2.2.2]
             exact flp_lt2 (HL.out.col hjl)
           obtain ⟨gr2,cr2,br2,kr2,b1,b2,b3⟩ := HAT.out v (col (-(ws.getD jn 0))) hv hcx2
           rw [a1] at b1
           injection b1 with b1
           injection b1 with b1 e2 e3
           injection b1 with b1
           injection b1 with b1
           subst b1
           clear e2 e3
           have HNX2 : Hid (leadTo s.t r (Ct.inv ws) (p + 1) = s.t.at v (col (-(ws.getD jn 0)))) := Lib.hid (by
             rw [leadTo_succ, <- HV.out,if_neg (by omega),Int.toNat_natCast,inv_getD (by omega), <- hjn])
           have hbd2 := HRB.out v hv _ hcx2
           have HC2 : Hid (∀ n,Calls Try.prog 179 #[.int .i64 (-(ws.getD jn 0))] (w.drewN n) fun e w' => e = .returned (.int .i64 (col (-(ws.getD jn 0)) : Nat)) /\ w.drewN n = w') := Lib.hid fun n => HCO.out _ n hx2n
           have hd0 : (0 : Int) <= ((col (-(ws.getD jn 0)) : Nat) : Int) := Int.natCast_nonneg _
           have hd1 : ((col (-(ws.getD jn 0)) : Nat) : Int) < (m : Int) := by have := HM.out; omega
           clear hx2n hcx2
           generalize col (-(ws.getD jn 0)) = cx2 at *
           generalize ws.getD jn 0 = x2 at *
           obtain ⟨hx3,hx4, -⟩ := hx2
           have hx5 : -16 <= x2 := by omega
           have hx6 : x2 <= 16 := by omega
           obtain ⟨hy3,hy4⟩ := hbd2
           by_cases hyy : s.t.at v cx2 < 0
           · have HB : Hid (bwd s.t r ws k = p) := Lib.hid (bwd_eq hp (.inr (by rw [HNX2.out]; exact hyy)) HP.out)
             have hwr : IntKind.i64.wrap (-x2) = -x2 := IntWalk.i64_in _ (by omega)
             have HBV := Lib.hid HV.out
             have hzz : (leadTo s.t r ws k).toNat = z := by rw [<- HZ.out]; rfl
             have hvv : (leadTo s.t r (Ct.inv ws) p).toNat = v := by rw [<- HV.out]; rfl
             have hnle : ¬ ws.length <= k + p := by omega
             by_cases hjk : jn = k
             · have HSC : Hid (scanS m s r ws = (joinS s z cx v,none)) := Lib.hid (by
                 unfold scanS
                 rw [if_neg hzne,HF.out,HB.out,if_neg hnle,if_pos (by omega),hzz,hvv,HXQ.out,HCE.out])
               have d4 : ((jn : Int) == (k : Int)) = true := by rw [hjk]; simp
               have d5 : decide ((jn : Int) < (k : Int)) = false := by simp; omega
               have HJ2 := Lib.hid fun q => HJO.out q z cx v hz hv HX0.out
               clear hzne hzz hvv hnle hjn hJ hjk
               go_wp2_with fail
               go_quiet ((go_at_call 179; exact quiet_add_left (HC2.out _)))
               go_wp2_with (first
                 | (go_at_call 179; (with_reducible refine (HC1.out _).mono ?_); rintro E w1 ⟨rfl,rfl⟩)
                 | (go_at_call 210; (with_reducible refine (HJ2.out _).mono ?_); rintro E w1 ⟨rfl,hs1,hb1⟩
                    have HS1 := Lib.hid hs1
                    have HB1 := Lib.hid hb1
                    clear hs1 hb1))
               try simp only [Exit.inBlock,Exit.then]
               refine bodyPost_ret (results_tmp3 rfl _ _ _) rfl ?_
               exact ⟨by rw [HSC.out]; rfl,by rw [HSC.out]; exact HS1.out,(HBE.out _).trans HB1.out⟩
             · have HSC : Hid (scanS m s r ws = (s,some (z,cx))) := Lib.hid (by
                 unfold scanS
                 rw [if_neg hzne,HF.out,HB.out,if_neg hnle,if_neg (by omega),hzz,HXQ.out,HCE.out])
               have d4 : ((jn : Int) == (k : Int)) = false := by rw [beq_eq_false_iff_ne]; omega
               have d5 : decide ((jn : Int) < (k : Int)) = false := by simp; omega
               clear hzne hzz hvv hnle hjn hJ hjk
               go_wp2_with fail
               go_quiet ((go_at_call 179; exact quiet_add_left (HC2.out _)))
               go_wp2_with (first
                 | (go_at_call 179; (with_reducible refine (HC1.out _).mono ?_); rintro E w1 ⟨rfl,rfl⟩))
               try simp only [Exit.inBlock,Exit.then]
               refine bodyPost_ret (results_tmp3 rfl _ _ _) rfl ?_
               exact ⟨by rw [HSC.out]; rfl,by rw [HSC.out]; exact HS.out _,HBE.out _⟩
           · obtain ⟨v',hv'⟩ : ∃ v' : Nat,s.t.at v cx2 = v' := ⟨(s.t.at v cx2).toNat,by omega⟩
             rw [hv'] at b3 HNX2 hy4
             have HJN : Hid ((jn : Int) = (ws.length : Int) - 1 - p) := Lib.hid (by omega)
             clear hyy hv' hjn hJ
             have hv1 : (0 : Int) <= (v' : Int) := Int.natCast_nonneg _
             have hwr : IntKind.i64.wrap (-x2) = -x2 := IntWalk.i64_in _ (by omega)
             go_wp2_with fail
             go_quiet ((go_at_call 179; exact quiet_add_left (HC2.out _)))
             go_wp2_with fail
             go_quiet ((go_at_call 179; exact quiet_add_left (HC2.out _)))
             go_wp2_with fail
             go_roundw
             case rel => exact ⟨p + 1,v',_,by omega,rfl,by have := HJN.out; omega,rfl,by omega,Lib.hid HNX2.out.symm,Lib.hid (all_succ HP.out ⟨hkp,by rw [HNX2.out]; omega⟩),(by first | exact ⟨_,rfl⟩ | exact ex_drewN)⟩
             case measure => simp [intOf]
         · have HB : Hid (bwd s.t r ws k = p) := Lib.hid (bwd_eq hp (.inl (by omega)) HP.out)
           have hzz : (leadTo s.t r ws k).toNat = z := by rw [<- HZ.out]; rfl
           have hvv : (leadTo s.t r (Ct.inv ws) p).toNat = v := by rw [<- HV.out]; rfl
           have HSC : Hid (scanS m s r ws = (coinS m s z v,none)) := Lib.hid (by
             unfold scanS
             rw [if_neg hzne,HF.out,HB.out,if_pos (by omega),hzz,hvv])
           have hJk : J < (k : Int) := by omega
           have d3 : decide ((k : Int) <= J) = false := by simp; omega
           have d5 : decide (J < (k : Int)) = true := by simp; omega
           have HC3 := Lib.hid fun q => HCN.out q z v hz hv
           clear hzne hzz hvv hkp hJ
           go_wp2_with fail
           go_quiet (fail)
           go_wp2_with (first
             | (go_at_call 221; (with_reducible refine (HC3.out _).mono ?_); rintro E w1 ⟨rfl,hs1,hb1⟩
                have HS1 := Lib.hid hs1
                have HB1 := Lib.hid hb1
                clear hs1 hb1))
           try simp only [Exit.inBlock,Exit.then]
           refine bodyPost_ret (results_tmp3 rfl _ _ _) rfl ?_
           exact ⟨by rw [HSC.out]; rfl,by rw [HSC.out]; exact HS1.out,(HBE.out _).trans HB1.out⟩
     · obtain ⟨z',hz'⟩ : ∃ z' : Nat,s.t.at z (col (ws.getD k 0)) = z' := ⟨(s.t.at z (col (ws.getD k 0))).toNat,by omega⟩
       rw [hz'] at a3 hbd HNX
       clear hy hz'
       generalize col (ws.getD k 0) = cx at *
       generalize ws.getD k 0 = x at *
       obtain ⟨hy1,hy2⟩ := hbd
       have hz1 : (0 : Int) <= (z' : Int) := Int.natCast_nonneg _
       go_wp2_with fail
       go_quiet ((go_at_call 179; exact quiet_add_left (HC1.out _)))
       go_wp2_with fail
       go_quiet ((go_at_call 179; exact quiet_add_left (HC1.out _)))
       go_wp2_with fail
       go_roundw
       case rel => exact ⟨k + 1,z',by go_num,by omega,rfl,by omega,Lib.hid HNX.out.symm,all_succ HJ.out (by rw [HNX.out]; omega),(by first | exact ⟨_,rfl⟩ | exact ex_drewN)⟩
       case measure => simp [intOf]; omega
   · obtain rfl : k = ws.length := by omega
     have HF : Hid (fwd s.t r ws = ws.length) := Lib.hid (fwd_eq (Nat.le_refl _) (.inl rfl) HJ.out)
     by_cases hzr : z = r
     · have HSC : Hid (scanS m s r ws = (s,none)) := Lib.hid (by unfold scanS; rw [if_pos HF.out,HF.out, <- HZ.out,if_pos (by rw [hzr])])
       have d1 : ((z : Int) != (r : Int)) = false := by rw [hzr]; simp
       have d2 : ((ws.length : Int) == (ws.length : Int)) = true := by simp
       clear hlt
       go_wp2_with fail
       go_quiet (fail)
       go_wp2_with fail
       try simp only [Exit.inBlock,Exit.then]
       refine bodyPost_ret (results_tmp3 rfl _ _ _) rfl ?_
       exact ⟨by rw [HSC.out]; rfl,by rw [HSC.out]; exact HS.out _,HBE.out _⟩
     · have HSC : Hid (scanS m s r ws = (coinS m s z r,none)) := Lib.hid (by unfold scanS; rw [if_pos HF.out,HF.out, <- HZ.out,if_neg (by omega),Int.toNat_natCast])
       have d1 : ((z : Int) != (r : Int)) = true := by simp; omega
       have d2 : ((ws.length : Int) == (ws.length : Int)) = true := by simp
       clear hlt
       have HC2 := Lib.hid fun q => HCN.out q z r hz hr
       go_wp2_with fail
       go_quiet (fail)
       go_wp2_with (first
         | (go_at_call 221; (with_reducible refine (HC2.out _).mono ?_); rintro E w1 ⟨rfl,hs1,hb1⟩
            have HS1 := Lib.hid hs1
            have HB1 := Lib.hid hb1
            clear hs1 hb1))
       try simp only [Exit.inBlock,Exit.then]
       refine bodyPost_ret (results_tmp3 rfl _ _ _) rfl ?_
       exact ⟨by rw [HSC.out]; rfl,by rw [HSC.out]; exact HS1.out,(HBE.out _).trans HB1.out⟩
end Go.Proofs
namespace Go.Proofs.Ct
end Go.Proofs.Ct
namespace Go.Proofs
open Go.RowKit Go.Shelf Go.Proofs.Ct Go.Maps
def openR (o : Int × Int × Bool × Bool) : Value := .tuple #[.int .i64 o.1, .int .i64 o.2.1, .bool o.2.2.1, .bool o.2.2.2]
end Go.Proofs
namespace Go.Proofs
open Go.RowKit Go.Shelf Go.Proofs.Ct Go.Maps
def rowsIn (b : Nat) (w : World) : Nat := match w.cell? ⟨b,2,none⟩ with
 | some (.slice _ n _) => n
 | _ => 0
theorem StP.rowsIn {base b m lim : Nat} {w : World} {s : St} (h : StP base b m lim w s) : rowsIn b w = s.t.length := by
 obtain ⟨-,P,vr,vp,vq,bl,cs,hB,hC⟩ := h
 obtain ⟨A,c,rfl⟩ := owns_form hC.out
 unfold Go.Proofs.rowsIn
 rw [hB.cells.2.2.1]
set_option maxRecDepth 100000 in
set_option maxHeartbeats 4000000 in
theorem fill125_any (g m base b lim r : Nat) (hm : m = 2 * g) (hg : g <= 16) (w : World) (s : St) (u : Value) (ws : W) (hR : Ct.Rest g s) (hS : StP base b m lim w s) (hbw : base <= w.heap.size) (hlim : lim <= 999999) (hn : s.t.length <= lim) (hu : ∀ W,Below base w W -> IntsAt W u ws) (hl : LOk g ws) (hr : r < s.t.length) (hlr : s.rp r = r) :
   Calls Try.prog 171 #[.pointer (some ⟨b,0,none⟩), .int .i64 (r : Int),u] w fun e w' => ((∃ s',fillS m lim s r ws = some s' /\ e = .returned (.tuple #[]) /\ StP base b m lim w' s') \/ (fillS m lim s r ws = none /\ e = .panicked fullP)) /\ Below base w w' := by
 have HREL : Hid (StP base b m lim w s /\ Ct.Rest g s /\ s.t.length <= lim /\ r < s.t.length /\ s.rp r = r /\ fillS m lim s r ws = fillS m lim s r ws) := Lib.hid ⟨hS,hR,hn,hr,hlr,rfl⟩
 generalize hfe : fillS m lim s r ws = F at *
 have HBW := Lib.hid hbw
 have HUU := Lib.hid hu
 have HL := Lib.hid hl
 have HM := Lib.hid hm
 clear hR hS hu hl hlr hn hr hbw
 have HF := Lib.hid hfe
 clear hfe
 go_enter Try.func171,Try.ntmps171
 go_wp2_with fail
 go_loopw [6] (fun f wr => ∃ s1 : St,Hid (StP base b m lim wr s1 /\ Ct.Rest g s1 /\ s1.t.length <= lim /\ r < s1.t.length /\ s1.rp r = r) /\ Hid (fillS m lim s1 r ws = F) /\ Hid (Below base w wr)) (fun _ wr => lim + 1 - rowsIn b wr)
 case atStart => exact ⟨s,Lib.hid ⟨HREL.out.1,HREL.out.2.1,HREL.out.2.2.1,HREL.out.2.2.2.1,HREL.out.2.2.2.2.1⟩,HF,Lib.hid (Below.refl _ _)⟩
 case round =>
   obtain ⟨s1,HI,HF1,HB⟩ := hrel
   clear HREL HF
   obtain ⟨h1,h2,h3,h4,h5⟩ := HI.out
   obtain ⟨k1,k2⟩ := scan_rest h2 h4 h5 HL.out
   rw [<- HM.out] at k1 k2
   have hstep := fillS_step (m := m) (r := r) (w := ws) h3
   rw [HF1.out] at hstep
   have HSC := Lib.hid (scan147_any g m base b lim r HM.out hg wr s1 u ws h2 h1 (Nat.le_trans HBW.out HB.out.size) (by omega) (HUU.out wr HB.out) HL.out h4 h5)
   cases hsc : scanS m s1 r ws with
   | mk s2 o =>
     rw [hsc] at HSC hstep
     cases o with
     | none =>
       have HE : Hid (F = some s2) := Lib.hid hstep
       have HSC' : Hid (Calls Try.prog 208 #[.pointer (some ⟨b,0,none⟩), .int .i64 (r : Int),u] wr fun e w' => e = .returned (.tuple #[.int .i64 0, .int .i64 0, .bool false]) /\ StP base b m lim w' s2 /\ Below base wr w') := Lib.hid HSC.out
       clear k1 k2 hstep HSC h1 h2 h3 h4 h5 hsc
       go_wp2_with (first
         | (go_at_call 208; (with_reducible refine HSC'.out.mono ?_); rintro E w1 ⟨rfl,hs1,hb1⟩
            have HS1 := Lib.hid hs1
            have HB1 := Lib.hid hb1
            clear hs1 hb1))
       refine bodyPost_ret (results_none rfl _ _ _) rfl ?_
       exact ⟨.inl ⟨s2,HE.out,rfl,HS1.out⟩,HB.out.trans HB1.out⟩
     | some fc =>
       obtain ⟨f,c⟩ := fc
       obtain ⟨rfl,j1,j2,j3,j4⟩ := k2 _ _ _ hsc
       have HSC' : Hid (Calls Try.prog 208 #[.pointer (some ⟨b,0,none⟩), .int .i64 (r : Int),u] wr fun e w' => e = .returned (.tuple #[.int .i64 (f : Int), .int .i64 (c : Int), .bool true]) /\ StP base b m lim w' s2 /\ Below base wr w') := Lib.hid HSC.out
       have hcm : c < m := by rw [HM.out]; rw [<- HM.out]; exact j2
       by_cases hfull : s2.t.length = lim
       · have HE : Hid (F = none) := Lib.hid (by rw [hstep]; exact if_pos hfull)
         have HD : Hid (∀ W,StP base b m lim W s2 -> base <= W.heap.size -> Calls Try.prog 174 #[.pointer (some ⟨b,0,none⟩), .int .i64 (f : Int), .int .i64 (c : Int)] W fun e w' => e = .panicked fullP /\ Below base W w') := Lib.hid fun W h hw => by
           subst hfull
           exact define128_full m base b f c W s2 h hw (by omega)
         clear k1 k2 hstep HSC h1 h2 h3 h4 h5 hsc j1 j2 j3 j4 hfull hcm
         go_wp2_with (first
           | (go_at_call 208; (with_reducible refine HSC'.out.mono ?_); rintro E w1 ⟨rfl,hs1,hb1⟩
              have HS1 := Lib.hid hs1
              have HB1 := Lib.hid (HB.out.trans hb1)
              clear hs1 hb1)
           | (go_at_call 174; (with_reducible refine (HD.out _ HS1.out (Nat.le_trans HBW.out HB1.out.size)).mono ?_); rintro E w2 ⟨rfl,hb2⟩
              have HB2 := Lib.hid (HB1.out.trans hb2)
              clear hb2))
         exact ⟨rfl, .inr ⟨HE.out,rfl⟩,HB2.out⟩
       · have HE : Hid (fillS m lim (defS m s2 f c) r ws = F) := Lib.hid (by rw [hstep]; exact (if_neg hfull).symm)
         have HD : Hid (∀ W,StP base b m lim W s2 -> base <= W.heap.size -> Calls Try.prog 174 #[.pointer (some ⟨b,0,none⟩), .int .i64 (f : Int), .int .i64 (c : Int)] W fun e w' => e = .returned (.tuple #[]) /\ StP base b m lim w' (defS m s2 f c) /\ Below base W w') := Lib.hid fun W h hw =>
           define128_any g m base b lim f c HM.out hg W s2 h2 h hw (by omega) j1 hcm hfull
         have HN : Hid (Ct.Rest g (defS m s2 f c) /\ (defS m s2 f c).t.length <= lim /\ r < (defS m s2 f c).t.length /\ (defS m s2 f c).rp r = r) := Lib.hid ⟨by
           have := (h2.defn (r := f) (c := c) j1 (by rw [<- HM.out]; exact hcm) j3 j4).1
           rw [<- HM.out] at this
           exact this,by rw [length_def]; omega,by rw [length_def]; omega,by rw [rp_def_old h2.inv m f c h4]; exact h5⟩
         have HRW : Hid (rowsIn b wr = s2.t.length) := Lib.hid h1.rowsIn
         have HLEN : Hid ((defS m s2 f c).t.length = s2.t.length + 1) := Lib.hid (length_def m f c)
         have HLT : Hid (s2.t.length <= lim) := Lib.hid h3
         clear k1 k2 hstep HSC h1 h2 h3 h4 h5 hsc j1 j2 j3 j4 hfull hcm HI
         generalize defS m s2 f c = s9 at *
         go_wp2_with (first
           | (go_at_call 208; (with_reducible refine HSC'.out.mono ?_); rintro E w1 ⟨rfl,hs1,hb1⟩
              have HS1 := Lib.hid hs1
              have HB1 := Lib.hid (HB.out.trans hb1)
              clear hs1 hb1)
           | (go_at_call 174; (with_reducible refine (HD.out _ HS1.out (Nat.le_trans HBW.out HB1.out.size)).mono ?_); rintro E w2 ⟨rfl,hs2,hb2⟩
              have HS2 := Lib.hid hs2
              have HB2 := Lib.hid (HB1.out.trans hb2)
              clear hs2 hb2))
         go_roundw
         case rel => exact ⟨s9,Lib.hid ⟨HS2.out,HN.out.1,HN.out.2.1,HN.out.2.2.1,HN.out.2.2.2⟩,HE,HB2⟩
         case measure =>
           show lim + 1 - rowsIn b w2 < lim + 1 - rowsIn b wr
           rw [HRW.out,HS2.out.rowsIn,HLEN.out]
           have := HLT.out
           omega
end Go.Proofs
namespace Go.Proofs
open Go.RowKit Go.Shelf Go.Proofs.Ct Go.Maps
namespace Ct
theorem opt_stop {α : Type} {f : Nat -> α -> Option α} {s s' : α} {k : Nat} (h : optTo f k s = some s') (hf : ∀ i,k <= i -> f i s' = some s') : ∀ n,k <= n -> optTo f n s = some s'
 | 0,hn => by rw [show k = 0 by omega] at h; exact h
 | n + 1,hn => by
   by_cases e : k = n + 1
   · rw [<- e]; exact h
   · rw [optTo_succ,opt_stop h hf n (by omega)]; exact hf n (by omega)
theorem relS_dead {m lim : Nat} {rels : List W} {r i : Nat} {s : St} (h : s.rp r ≠ r) : relS m lim rels r i s = some s := if_neg h
theorem colS_dead {m lim r c : Nat} {s : St} (h : s.rp r ≠ r) : colS m lim r c s = some s := if_neg fun h' => h h'.1
theorem rowsS_stop {m lim : Nat} {rels : List W} {r : Nat} {s : St} (h : s.t.length <= r) : rowsS m lim rels r s = some s := if_neg (by omega)
end Ct
theorem StP.rows {base b m lim : Nat} {w : World} {s : St} (h : StP base b m lim w s) : ∃ A c,w.cell? ⟨b,2,none⟩ = some (.slice A s.t.length c) := by
 obtain ⟨-,P,vr,vp,vq,bl,cs,hB,hC⟩ := h
 obtain ⟨A,c,rfl⟩ := owns_form hC.out
 exact ⟨A,c,hB.cells.2.2.1⟩
def Words (base : Nat) (w : World) (v : Value) (l : List W) : Prop := ∃ w0,w0.heap.size = base /\ Tab w0 v l /\ Below base w0 w
theorem Words.tab {base : Nat} {w : World} {v : Value} {l : List W} (h : Words base w v l) {W : World} (hb : Below base w W) : Tab W v l := by
 obtain ⟨w0,rfl,ht,h0⟩ := h
 exact kept_tab.below ht (h0.trans hb)
theorem Words.at_ {base : Nat} {w : World} {v : Value} {l : List W} (h : Words base w v l) {k : Nat} (hk : k < l.length) : ∃ b o c u,v = .slice (some ⟨b,o,none⟩) l.length c /\ ∀ W,Below base w W -> W.cell? ⟨b,o + k,none⟩ = some u /\ IntsAt W u (l.getD k []) := by
 obtain ⟨w0,rfl,ht,h0⟩ := h
 obtain ⟨A,c,rfl, -, -,h3⟩ := ht.open_
 obtain ⟨b,o,rfl,h4⟩ := h3 (by omega)
 obtain ⟨u,hu,hI⟩ := h4 k hk
 exact ⟨b,o,c,u,rfl,fun W hW => ⟨((h0.trans hW).cell (p := ⟨b,o + k,none⟩) (World.block_lt_of_cell? w0 _ hu)).trans hu,kept_ints.below hI (h0.trans hW)⟩⟩
set_option maxRecDepth 100000 in
set_option maxHeartbeats 4000000 in
theorem run85_any (g m base b lim : Nat) (hm : m = 2 * g) (hg : g <= 16) (w : World) (vr vs : Value) (rels sub : List W) (hS : StP base b m lim w nilS) (hbw : base <= w.heap.size) (hlim : lim <= 999999) (h1 : 1 <= lim) (hr : Words base w vr rels) (hs : Words base w vs sub) (hlr : ∀ j,LOk g (rels.getD j [])) (hls : ∀ j,LOk g (sub.getD j [])) :
   Calls Try.prog 109 #[.pointer (some ⟨b,0,none⟩),vr,vs] w fun e w' => ((∃ s',runS m lim rels sub = some s' /\ e = .returned (.tuple #[]) /\ StP base b m lim w' s') \/ (runS m lim rels sub = none /\ e = .panicked fullP)) /\ Below base w w' := by
 have HA : Hid (Calls Try.prog 172 #[.pointer (some ⟨b,0,none⟩)] w fun e w' => e = .returned (.int .i64 0) /\ StP base b m lim w' (startS m) /\ Below base w w') := Lib.hid (add126_any g m base b lim (by omega) w nilS (by
   refine ⟨?_, ?_,rfl, ?_, ?_, ?_⟩ <;> intro x hx <;> exact absurd hx (Nat.not_lt_zero _)) hS hbw (by decide) (by decide) (by decide) (by show 0 ≠ lim; omega))
 have HBW := Lib.hid hbw
 obtain ⟨Ar,cr,rfl,hra,hrc, -⟩ := (hr.tab (Below.refl _ _)).open_
 obtain ⟨As,cs,rfl,hsa,hsc, -⟩ := (hs.tab (Below.refl _ _)).open_
 clear hS hbw
 have HG0 : Hid (Ct.Good g lim (startS m)) := Lib.hid (by rw [hm]; exact start_good h1)
 have HFQ : Hid (runS m lim rels sub = (optTo (subS m lim sub) sub.length (startS m)).bind (optTo (rowsS m lim rels) lim)) := Lib.hid rfl
 generalize runS m lim rels sub = F at *
 have hsb : (0 : Int) <= (sub.length : Int) := Int.natCast_nonneg _
 have hsb2 : (sub.length : Int) <= 9223372036854775807 := by omega
 have HRW := Lib.hid hr
 have HSW := Lib.hid hs
 clear hr hs
 go_enter Try.func109,Try.ntmps109
 go_wp2_with (first
   | (go_at_call 172; (with_reducible refine HA.out.mono ?_); rintro E w1 ⟨rfl,hs1,hb1⟩
      have HS1 := Lib.hid hs1
      have HB1 := Lib.hid hb1
      clear hs1 hb1))
 go_loopw [19] (fun i wr => ∃ (k : Nat) (s1 : St),i = .int .i64 (k : Int) /\ k <= sub.length /\ Hid (optTo (subS m lim sub) k (startS m) = some s1 /\ Ct.Good g lim s1 /\ StP base b m lim wr s1) /\ Hid (Below base w wr)) (fun i _ => sub.length - (intOf i).toNat)
 case atStart => exact ⟨0,startS m,rfl,Nat.zero_le _,Lib.hid ⟨rfl,HG0.out,HS1.out⟩,HB1⟩
 case round =>
   clear HA HS1 HB1 HG0
   obtain ⟨k,s1,rfl,hk,HI,HB⟩ := hrel
   have hk0 : (0 : Int) <= (k : Int) := Int.natCast_nonneg _
   by_cases hlt : k < sub.length
   · have hltI : (k : Int) < (sub.length : Int) := by omega
     obtain ⟨bs,os,c',u,e,hcell⟩ := HSW.out.at_ hlt
     injection e with e1 e2 e3
     subst e1 e3
     have hck := (hcell wr HB.out).1
     have hgd := HI.out.2.1
     have HFI : Hid (Calls Try.prog 171 #[.pointer (some ⟨b,0,none⟩), .int .i64 0,u] wr fun e w' => ((∃ s',fillS m lim s1 0 (sub.getD k []) = some s' /\ e = .returned (.tuple #[]) /\ StP base b m lim w' s') \/ (fillS m lim s1 0 (sub.getD k []) = none /\ e = .panicked fullP)) /\ Below base wr w') := Lib.hid (fill125_any g m base b lim 0 hm hg wr s1 u (sub.getD k []) hgd.rest HI.out.2.2 (Nat.le_trans HBW.out HB.out.size) hlim hgd.n2 (fun W h => (hcell W (HB.out.trans h)).2) (hls k) (by have := hgd.n1; omega) (Ct.rp_zero hgd.rest (by have := hgd.n1; omega)))
     have HOP : Hid (optTo (subS m lim sub) (k + 1) (startS m) = fillS m lim s1 0 (sub.getD k [])) := Lib.hid (by rw [optTo_succ,HI.out.1]; rfl)
     clear hcell hgd
     generalize hfs : fillS m lim s1 0 (sub.getD k []) = fs at *
     have HFS := Lib.hid hfs
     clear hfs
     cases fs with
     | none =>
       have HE : Hid (F = none) := Lib.hid (by rw [HFQ.out,optTo_none HOP.out sub.length (by omega)]; rfl)
       have HFI' := Lib.hid (HFI.out.mono (R' := fun E w2 => E = .panicked fullP /\ Below base wr w2) fun E w2 ⟨h,hb⟩ => ⟨by
         rcases h with ⟨s',e, -⟩ | ⟨-,h⟩
         · cases e
         · exact h,hb⟩)
       clear HFI
       go_wp2_with (first
         | (go_at_call 171; (with_reducible refine HFI'.out.mono ?_); rintro E w2 ⟨rfl,hb2⟩
            have HB2 := Lib.hid (HB.out.trans hb2)
            clear hb2))
       exact ⟨rfl, .inr ⟨HE.out,rfl⟩,HB2.out⟩
     | some s2 =>
       have HG2 : Hid (Ct.Good g lim s2) := Lib.hid (by
         have := HFS.out
         rw [hm] at this
         exact (fill_good HI.out.2.1 (by have := HI.out.2.1.n1; omega) (Ct.rp_zero HI.out.2.1.rest (by have := HI.out.2.1.n1; omega)) (hls k) this).1)
       have HFI' := Lib.hid (HFI.out.mono (R' := fun E w' => E = .returned (.tuple #[]) /\ StP base b m lim w' s2 /\ Below base wr w') fun E w2 ⟨h,hb⟩ => by
         rcases h with ⟨s',e,h1,h2⟩ | ⟨e, -⟩
         · cases e
           exact ⟨h1,h2,hb⟩
         · cases e)
       clear HFI
       go_wp2_with (first
         | (go_at_call 171; (with_reducible refine HFI'.out.mono ?_); rintro E w2 ⟨rfl,hs2,hb2⟩
            have HB2 := Lib.hid (HB.out.trans hb2)
            have HS2 := Lib.hid hs2
            clear hb2 hs2))
       go_roundw
       case rel => exact ⟨k + 1,s2,by go_num,by omega,Lib.hid ⟨HOP.out,HG2.out,HS2.out⟩,HB2⟩
       case measure => simp [intOf]; omega
   · obtain rfl : k = sub.length := by omega
     have HFR : Hid (F = optTo (rowsS m lim rels) lim s1) := Lib.hid (by rw [HFQ.out,HI.out.1]; rfl)
     clear hlt
     go_wp2_with fail
     go_loopg [9] (lim + 1) (fun n i wr => ∃ (k : Nat) (s2 : St),i = .int .i64 (k : Int) /\ n = lim + 1 - k /\ k <= s2.t.length /\ Hid (optTo (rowsS m lim rels) k s1 = some s2 /\ Ct.Good g lim s2 /\ StP base b m lim wr s2) /\ Hid (Below base w wr))
     case atStart => exact ⟨0,s1,rfl,by omega,Nat.zero_le _,Lib.hid ⟨rfl,HI.out.2.1,HI.out.2.2⟩,HB⟩
     case round =>
       clear HI HB
       obtain ⟨k,s2,rfl,hgk,hk2,HI,HB⟩ := hrel
       have hk0 : (0 : Int) <= (k : Int) := Int.natCast_nonneg _
       obtain ⟨A2,c2,hc2⟩ := HI.out.2.2.rows
       have hn2 : s2.t.length <= lim := HI.out.2.1.n2
       have HGK := Lib.hid hgk
       clear hgk
       by_cases hlt : k < s2.t.length
       · have HKL := Lib.hid hlt
         have hltI : (k : Int) < (s2.t.length : Int) := by omega
         clear hlt
         go_upto_block 4 with fail
         go_cut [] from 38 to 50 (fun wx => ∃ s3,Hid (optTo (relS m lim rels k) rels.length s2 = some s3 /\ StP base b m lim wx s3) /\ Hid (Below base w wx))
         case first =>
           go_wp2_with fail
           have hrb : (0 : Int) <= (rels.length : Int) := Int.natCast_nonneg _
           have hrb2 : (rels.length : Int) <= 9223372036854775807 := by omega
           go_loopg [38] rels.length (fun n i wx => ∃ (j : Nat) (s3 : St),i = .int .i64 (j : Int) /\ n = rels.length - j /\ j <= rels.length /\ Hid (optTo (relS m lim rels k) j s2 = some s3 /\ StP base b m lim wx s3) /\ Hid (Below base w wx))
           case atStart => exact ⟨0,s2,rfl,by omega,Nat.zero_le _,Lib.hid ⟨rfl,HI.out.2.2⟩,HB⟩
           case round =>
             obtain ⟨j,s3,rfl,hgj,hj,HI3,HB3⟩ := hrel
             have hj0 : (0 : Int) <= (j : Int) := Int.natCast_nonneg _
             have HGJ := Lib.hid hgj
             clear hgj
             have HG3 : Hid (Ct.Good g lim s3 /\ Ext g s2 s3) := Lib.hid (by
               have := HI3.out.1
               rw [hm] at this
               exact rel_good (fun j _ => hlr j) HI.out.2.1 HKL.out this)
             have hk3 : k < s3.t.length := Nat.lt_of_lt_of_le HKL.out HG3.out.2.n
             by_cases hjl : j < rels.length
             · have hjlI : (j : Int) < (rels.length : Int) := by omega
               obtain ⟨bs,os,c',u,e,hcell⟩ := HRW.out.at_ hjl
               injection e with e1 e2 e3
               subst e1 e3
               have hck := (hcell _ HB3.out).1
               have HAL := Lib.hid (alive127_any g base b m lim k _ s3 HI3.out.2 hk3)
               by_cases hal : s3.rp k = k
               · have HAT : Hid (decide (s3.rp k = k) = true) := Lib.hid (by simp [hal])
                 have HFI := Lib.hid (fun W (h : StP base b m lim W s3) (hb : Below base w W) => fill125_any g m base b lim k hm hg W s3 u (rels.getD j []) HG3.out.1.rest h (Nat.le_trans HBW.out hb.size) hlim HG3.out.1.n2 (fun W' h' => (hcell W' (hb.trans h')).2) (hlr j) hk3 hal)
                 have HOP : Hid (optTo (relS m lim rels k) (j + 1) s2 = fillS m lim s3 k (rels.getD j [])) := Lib.hid (by
                   rw [optTo_succ,HI3.out.1]
                   exact if_pos hal)
                 clear hcell hal
                 generalize hfs : fillS m lim s3 k (rels.getD j []) = fs at *
                 have HFS := Lib.hid hfs
                 clear hfs
                 cases fs with
                 | none =>
                   have HE : Hid (F = none) := Lib.hid (by
                     rw [HFR.out]
                     refine optTo_none (k := k + 1) ?_ lim (by have := HKL.out; omega)
                     rw [optTo_succ,HI.out.1]
                     show rowsS m lim rels k s2 = none
                     unfold rowsS rowS
                     rw [if_pos HKL.out,optTo_none HOP.out rels.length (by omega)]
                     rfl)
                   have HFI' := Lib.hid (fun W h hb => (HFI.out W h hb).mono (R' := fun E w2 => E = .panicked fullP /\ Below base W w2) fun E w2 ⟨h,hb⟩ => ⟨by
                     rcases h with ⟨s',e, -⟩ | ⟨-,h⟩
                     · cases e
                     · exact h,hb⟩)
                   clear HFI
                   go_wp2_with (first
                     | (go_at_call 173; (with_reducible refine HAL.out.mono ?_); rintro E w2 ⟨rfl,rfl⟩; rw [HAT.out])
                     | (go_at_call 171; (with_reducible refine (HFI'.out _ HI3.out.2 HB3.out).mono ?_); rintro E w2 ⟨rfl,hb2⟩
                        have HB2 := Lib.hid (HB3.out.trans hb2)
                        clear hb2))
                   exact ⟨rfl, .inr ⟨HE.out,rfl⟩,HB2.out⟩
                 | some s4 =>
                   have HFI' := Lib.hid (fun W h hb => (HFI.out W h hb).mono (R' := fun E w' => E = .returned (.tuple #[]) /\ StP base b m lim w' s4 /\ Below base W w') fun E w2 ⟨h,hb⟩ => by
                     rcases h with ⟨s',e,h1,h2⟩ | ⟨e, -⟩
                     · cases e
                       exact ⟨h1,h2,hb⟩
                     · cases e)
                   clear HFI
                   go_wp2_with (first
                     | (go_at_call 173; (with_reducible refine HAL.out.mono ?_); rintro E w2 ⟨rfl,rfl⟩; rw [HAT.out])
                     | (go_at_call 171; (with_reducible refine (HFI'.out _ HI3.out.2 HB3.out).mono ?_); rintro E w2 ⟨rfl,hs2,hb2⟩
                        have HB2 := Lib.hid (HB3.out.trans hb2)
                        have HS2 := Lib.hid hs2
                        clear hb2 hs2))
                   go_roundg (rels.length - (j + 1))
                   case measure => have := HGJ.out; omega
                   case rel => exact ⟨j + 1,s4,by go_num,rfl,by omega,Lib.hid ⟨HOP.out,HS2.out⟩,HB2⟩
               · have HAT : Hid (decide (s3.rp k = k) = false) := Lib.hid (by simp [hal])
                 have HOP : Hid (optTo (relS m lim rels k) rels.length s2 = some s3) := Lib.hid (opt_stop HI3.out.1 (fun i _ => relS_dead hal) _ hj)
                 clear hcell hal
                 go_wp2_with (first
                   | (go_at_call 173; (with_reducible refine HAL.out.mono ?_); rintro E w2 ⟨rfl,rfl⟩; rw [HAT.out]))
                 go_meet
                 case rel => exact ⟨s3,Lib.hid ⟨HOP.out,HI3.out.2⟩,HB3⟩
             · obtain rfl : j = rels.length := by omega
               clear hjl
               go_wp2_with fail
               go_meet
               case rel => exact ⟨s3,HI3,HB3⟩
         case rest =>
           clear hc2
           obtain ⟨s3,HI3,HB3⟩ := hcut
           have HG3 : Hid (Ct.Good g lim s3 /\ Ext g s2 s3) := Lib.hid (by
             have := HI3.out.1
             rw [hm] at this
             exact rel_good (fun j _ => hlr j) HI.out.2.1 HKL.out this)
           have hk3 : k < s3.t.length := Nat.lt_of_lt_of_le HKL.out HG3.out.2.n
           have HM := Lib.hid hm
           go_wp2_with fail
           go_loopg [12] m (fun n i wx => ∃ (c : Nat) (s4 : St),i = .int .i64 (c : Int) /\ n = m - c /\ c <= m /\ Hid (optTo (colS m lim k) c s3 = some s4 /\ StP base b m lim wx s4) /\ Hid (Below base w wx))
           case atStart => exact ⟨0,s3,rfl,by omega,Nat.zero_le _,Lib.hid ⟨rfl,HI3.out.2⟩,HB3⟩
           case round =>
             obtain ⟨c,s4,rfl,hgc,hc,HI4,HB4⟩ := hrel
             have HGC := Lib.hid hgc
             clear hgc
             have hc0 : (0 : Int) <= (c : Int) := Int.natCast_nonneg _
             have HG4 : Hid (Ct.Good g lim s4 /\ Ext g s3 s4) := Lib.hid (by
               have := HI4.out.1
               rw [HM.out] at this
               obtain ⟨a1,a2, -⟩ := col_good HG3.out.1 hk3 (by omega) this
               exact ⟨a1,a2⟩)
             have hk4 : k < s4.t.length := Nat.lt_of_lt_of_le hk3 HG4.out.2.n
             have hk4I : (k : Int) < (s4.t.length : Int) := by omega
             obtain ⟨hw0, -⟩ := HI4.out.2.width
             have HAL := Lib.hid (alive127_any g base b m lim k _ s4 HI4.out.2 hk4)
             have HEND : Hid (optTo (colS m lim k) m s3 = some s4 -> optTo (rowsS m lim rels) (k + 1) s1 = some s4) := Lib.hid (fun h => by
               rw [optTo_succ,HI.out.1]
               show rowsS m lim rels k s2 = some s4
               unfold rowsS rowS
               rw [if_pos HKL.out,HI3.out.1]
               exact h)
             have HGE : Hid (k + 1 <= s4.t.length) := Lib.hid (by omega)
             by_cases hcm : c < m
             · have hcmI : (c : Int) < (m : Int) := by omega
               by_cases hal : s4.rp k = k
               · have HAT : Hid (decide (s4.rp k = k) = true) := Lib.hid (by simp [hal])
                 have HAH := Lib.hid hal
                 clear hal
                 obtain ⟨gr,cr4,br,kr,a1,a2,a3⟩ := HI4.out.2.at_ HG4.out.1.rest.inv hk4 (c := c) (by rw [<- HM.out]; exact hcm)
                 rw [<- HM.out] at a2
                 by_cases hneg : s4.t.at k c < 0
                 · by_cases hfull : s4.t.length = lim
                   · have HE : Hid (F = none) := Lib.hid (by
                       rw [HFR.out]
                       refine optTo_none (k := k + 1) ?_ lim (by have := HKL.out; omega)
                       rw [optTo_succ,HI.out.1]
                       show rowsS m lim rels k s2 = none
                       unfold rowsS rowS
                       rw [if_pos HKL.out,HI3.out.1]
                       refine optTo_none (k := c + 1) ?_ m (by omega)
                       rw [optTo_succ,HI4.out.1]
                       show colS m lim k c s4 = none
                       unfold colS
                       rw [if_pos ⟨HAH.out,hneg⟩,if_pos hfull])
                     have HD : Hid (∀ W,StP base b m lim W s4 -> base <= W.heap.size -> Calls Try.prog 174 #[.pointer (some ⟨b,0,none⟩), .int .i64 (k : Int), .int .i64 (c : Int)] W fun e w' => e = .panicked fullP /\ Below base W w') := Lib.hid fun W h hw => by
                       subst hfull
                       exact define128_full m base b k c W s4 h hw (by omega)
                     have HNG := Lib.hid hneg
                     have hd5 : decide (s4.t.at k c < 0) = true := decide_eq_true hneg
                     clear hfull
                     go_wp2_with (first
                       | (go_at_call 173; (with_reducible refine HAL.out.mono ?_); rintro E w2 ⟨rfl,rfl⟩; rw [HAT.out])
                       | (go_at_call 174; (with_reducible refine (HD.out _ HI4.out.2 (Nat.le_trans HBW.out HB4.out.size)).mono ?_); rintro E w2 ⟨rfl,hb2⟩
                          have HB2 := Lib.hid (HB4.out.trans hb2)
                          clear hb2))
                     exact ⟨rfl, .inr ⟨HE.out,rfl⟩,HB2.out⟩
                   · have HOP : Hid (optTo (colS m lim k) (c + 1) s3 = some (defS m s4 k c)) := Lib.hid (by
                       rw [optTo_succ,HI4.out.1]
                       show colS m lim k c s4 = _
                       unfold colS
                       rw [if_pos ⟨HAH.out,hneg⟩,if_neg hfull])
                     have HD : Hid (∀ W,StP base b m lim W s4 -> base <= W.heap.size -> Calls Try.prog 174 #[.pointer (some ⟨b,0,none⟩), .int .i64 (k : Int), .int .i64 (c : Int)] W fun e w' => e = .returned (.tuple #[]) /\ StP base b m lim w' (defS m s4 k c) /\ Below base W w') := Lib.hid fun W h hw => by
                       exact define128_any g m base b lim k c HM.out hg W s4 HG4.out.1.rest h hw (by have := HG4.out.1.n2; omega) hk4 hcm hfull
                     clear hfull
                     go_wp2_with (first
                       | (go_at_call 173; (with_reducible refine HAL.out.mono ?_); rintro E w2 ⟨rfl,rfl⟩; rw [HAT.out])
                       | (go_at_call 174; (with_reducible refine (HD.out _ HI4.out.2 (Nat.le_trans HBW.out HB4.out.size)).mono ?_); rintro E w2 ⟨rfl,hs2,hb2⟩
                          have HS2 := Lib.hid hs2
                          have HB2 := Lib.hid (HB4.out.trans hb2)
                          clear hs2 hb2))
                     go_roundg (m - (c + 1))
                     case measure => have := HGC.out; omega
                     case rel => exact ⟨c + 1,_,by go_num,rfl,by omega,Lib.hid ⟨HOP.out,HS2.out⟩,HB2⟩
                 · have HOP : Hid (optTo (colS m lim k) (c + 1) s3 = some s4) := Lib.hid (by
                     rw [optTo_succ,HI4.out.1]
                     show colS m lim k c s4 = _
                     unfold colS
                     rw [if_neg fun h' => hneg h'.2])
                   go_wp2_with (first
                     | (go_at_call 173; (with_reducible refine HAL.out.mono ?_); rintro E w2 ⟨rfl,rfl⟩; rw [HAT.out]))
                   go_roundg (m - (c + 1))
                   case measure => have := HGC.out; omega
                   case rel => exact ⟨c + 1,s4,by go_num,rfl,by omega,Lib.hid ⟨HOP.out,HI4.out.2⟩,HB4⟩
               · have HAT : Hid (decide (s4.rp k = k) = false) := Lib.hid (by simp [hal])
                 have HFIN : Hid (optTo (rowsS m lim rels) (k + 1) s1 = some s4) := Lib.hid (HEND.out (opt_stop HI4.out.1 (fun i _ => colS_dead hal) _ hc))
                 clear hal
                 go_wp2_with (first
                   | (go_at_call 173; (with_reducible refine HAL.out.mono ?_); rintro E w2 ⟨rfl,rfl⟩; rw [HAT.out]))
                 go_roundg (lim + 1 - (k + 1))
                 case measure => have := HGK.out; have := HKL.out; omega
                 case rel => exact ⟨k + 1,s4,by go_num,rfl,HGE.out,Lib.hid ⟨HFIN.out,HG4.out.1,HI4.out.2⟩,HB4⟩
             · obtain rfl : c = m := by omega
               have HFIN : Hid (optTo (rowsS c lim rels) (k + 1) s1 = some s4) := Lib.hid (HEND.out HI4.out.1)
               clear hcm
               go_wp2_with fail
               go_roundg (lim + 1 - (k + 1))
               case measure => have := HGK.out; have := HKL.out; omega
               case rel => exact ⟨k + 1,s4,by go_num,rfl,HGE.out,Lib.hid ⟨HFIN.out,HG4.out.1,HI4.out.2⟩,HB4⟩
       · have HE : Hid (F = some s2) := Lib.hid (by
           rw [HFR.out]
           exact opt_stop HI.out.1 (fun i hi => rowsS_stop (by omega)) lim (by omega))
         clear hn2
         go_wp2_with fail
         go_end0
         exact ⟨.inl ⟨s2,HE.out,rfl,HI.out.2.2⟩,HB.out⟩
end Go.Proofs
namespace Go.Proofs.Ct
def nmL (s : St) (k : Nat) : List Int := (List.range s.t.length).map fun i => if i < k /\ s.rp i = i then (num s i : Int) else 0
theorem length_nmL (s : St) (k : Nat) : (nmL s k).length = s.t.length := by simp [nmL]
theorem nmL_getD (s : St) (k : Nat) {i : Nat} (h : i < s.t.length) : (nmL s k).getD i 0 = if i < k /\ s.rp i = i then (num s i : Int) else 0 := by
 unfold nmL
 simp [List.getD_eq_getElem?_getD,h]
theorem nmL_zero (s : St) : nmL s 0 = List.replicate s.t.length 0 := getD_ext (d := 0) (by simp [length_nmL]) fun i hi => by
 rw [length_nmL] at hi
 rw [nmL_getD s 0 hi,if_neg (by omega)]
 simp [List.getD_eq_getElem?_getD,hi]
theorem nmL_live {s : St} {k : Nat} (h : k < s.t.length) (hl : s.rp k = k) : nmL s (k + 1) = (nmL s k).set k (num s k) := getD_ext (d := 0) (by simp [length_nmL]) fun i hi => by
 rw [length_nmL] at hi
 rw [nmL_getD s _ hi,getD_set,length_nmL]
 by_cases e : k = i
 · subst e; rw [if_pos ⟨by omega,hl⟩,if_pos ⟨rfl,h⟩]
 · rw [if_neg (fun h' : k = i /\ k < s.t.length => e h'.1),nmL_getD s _ hi]
   by_cases h2 : i < k /\ s.rp i = i
   · rw [if_pos h2,if_pos ⟨by omega,h2.2⟩]
   · rw [if_neg h2,if_neg (fun h' => h2 ⟨by omega,h'.2⟩)]
theorem nmL_dead {s : St} {k : Nat} (hl : s.rp k ≠ k) : nmL s (k + 1) = nmL s k := getD_ext (d := 0) (by simp [length_nmL]) fun i hi => by
 rw [length_nmL] at hi
 rw [nmL_getD s _ hi,nmL_getD s _ hi]
 by_cases h2 : i < k /\ s.rp i = i
 · rw [if_pos h2,if_pos ⟨by omega,h2.2⟩]
 · rw [if_neg h2,if_neg (fun h' => h2 ⟨by
     rcases Nat.lt_or_ge i k with h3 | h3
     · exact h3
     · obtain rfl : i = k := by omega
       exact absurd h'.2 hl,h'.2⟩)]
def tabTo (s : St) (k : Nat) : Tb := (livTo s k).map fun x => (s.t.row x).map fun v => (num s v.toNat : Int)
theorem tabTo_live {s : St} {k : Nat} (hl : s.rp k = k) : tabTo s (k + 1) = tabTo s k ++ [(s.t.row k).map fun v => (num s v.toNat : Int)] := by
 unfold tabTo
 rw [livTo_succ,if_pos hl,List.map_append]
 rfl
theorem tabTo_dead {s : St} {k : Nat} (hl : s.rp k ≠ k) : tabTo s (k + 1) = tabTo s k := by
 unfold tabTo
 rw [livTo_succ,if_neg hl]
theorem length_tabTo (s : St) (k : Nat) : (tabTo s k).length = (livTo s k).length := by simp [tabTo]
def mixTo (f : Int -> Int) (x : List Int) (c : Nat) : List Int := (x.take c).map f ++ x.drop c
theorem length_mix (f : Int -> Int) (x : List Int) (c : Nat) : (mixTo f x c).length = x.length := by simp [mixTo]; omega
theorem mix_zero (f : Int -> Int) (x : List Int) : mixTo f x 0 = x := by simp [mixTo]
theorem mix_all (f : Int -> Int) (x : List Int) : mixTo f x x.length = x.map f := by simp [mixTo]
theorem mix_getD (f : Int -> Int) (x : List Int) (c : Nat) {i : Nat} (h : i < x.length) : (mixTo f x c).getD i 0 = if i < c then f (x.getD i 0) else x.getD i 0 := by
 unfold mixTo
 rw [List.getD_eq_getElem?_getD,List.getElem?_append]
 by_cases h2 : i < c
 · rw [if_pos (by simp; omega),if_pos h2]
   simp [List.getD_eq_getElem?_getD,h,h2]
 · rw [if_neg (by simp; omega),if_neg h2]
   simp [List.getD_eq_getElem?_getD,Nat.min_eq_left (by omega : c <= x.length),show c + (i - c) = i by omega]
theorem mix_set (f : Int -> Int) (x : List Int) {c : Nat} (h : c < x.length) : mixTo f x (c + 1) = (mixTo f x c).set c (f (x.getD c 0)) := getD_ext (d := 0) (by simp [length_mix]) fun i hi => by
 rw [length_mix] at hi
 rw [mix_getD f x _ hi,getD_set,length_mix]
 by_cases e : c = i
 · subst e; rw [if_pos (by omega),if_pos ⟨rfl,h⟩]
 · rw [if_neg (fun h' : c = i /\ c < x.length => e h'.1),mix_getD f x _ hi]
   by_cases h2 : i < c
   · rw [if_pos h2,if_pos (by omega)]
   · rw [if_neg h2,if_neg (by omega)]
end Go.Proofs.Ct
namespace Go.Proofs
open Go.RowKit Go.Shelf Go.Proofs.Ct Go.Maps
theorem OutSt2.set {e : TypeId} (he : e ≠ 3) {F : Nat -> Prop} {w0 wr : World} {vout vr : Value} {rows : List (List Int)} {x : List Int} (h : OutSt2 e F w0 wr vout vr rows x) {g k : Nat} (hg : vr.ownBlock = some g) (hk : k < x.length) (z : Int) : OutSt2 e F w0 (wr.setCell ⟨g,k,none⟩ (.int .i64 z)) vout vr rows (x.set k z) := by
 obtain ⟨h1,C,hC⟩ := owns_block h.row g hg
 refine ⟨h.st.grown (grown_setCell wr g k _) fun r hr => ?_,ownI_set h.row hg hk z,h.ap⟩
 obtain rfl : g = r := Option.some.inj hr
 refine ⟨h1,h.ap g hg,fun e' => ?_⟩
 obtain ⟨-,C',hC'⟩ := h.st.out.block g e'
 rw [hC] at hC'
 injection hC' with h5
 injection h5 with _ h6 _
 exact he h6.symm
theorem eqnil24_none (w : World) (n c : Nat) : (binOp .eql 24 (.slice none n c) (.slice none 0 0)).run Try.prog w = .ok (.bool true) w := by kernel_rfl
theorem eqnil24_some (w : World) (a : Addr) (n c : Nat) : (binOp .eql 24 (.slice (some a) n c) (.slice none 0 0)).run Try.prog w = .ok (.bool false) w := by kernel_rfl
set_option maxRecDepth 100000 in
theorem clone129_any (w : World) (v : Value) (xs : List Int) (h : IntsAt w v xs) (hl : xs.length <= 1000000) :
   Calls Try.prog 175 #[v] w fun e w' => ∃ A c,e = .returned (.slice A xs.length c) /\ OwnI w.heap.size w' (.slice A xs.length c) xs /\ Below w.heap.size w w' := by
 obtain ⟨A0,c0,w',hr,hb,ho⟩ := run_copy Try.underlying24 h hl
 have HR := Lib.hid hr
 have HB := Lib.hid hb
 have HO := Lib.hid ho
 obtain ⟨A,cap,rfl,hcap,hmax,hc⟩ := h.open_
 cases A with
 | none =>
   have h0 : xs = [] := by
     rcases Nat.eq_zero_or_pos xs.length with h0 | h0
     · exact List.length_eq_zero_iff.1 h0
     · obtain ⟨b,off,hx, -⟩ := hc h0
       cases hx
   clear hr hb ho hc h HR HB HO
   subst h0
   have hq := eqnil24_none w
   go_enter Try.func175,Try.ntmps175
   go_wp2_with fail
   go_ret
   exact ⟨none,0,rfl,World.ownsRow_nil _ _ _ _,Below.refl _ _⟩
 | some a =>
   clear hr hb ho hc h
   have hq := eqnil24_some w
   go_enter Try.func175,Try.ntmps175
   go_wp2_with ((with_reducible refine wpList_sel 7 ?_); refine wpList_val rfl (r_app (.tmp 5) (.tmp 6) 24 rfl rfl rfl HR.out) ?_)
   go_ret
   exact ⟨_,_,rfl,HO.out,HB.out⟩
theorem StP.rowAt {g base b m lim : Nat} {w : World} {s : St} (hI : Inv g s) (hn : s.t.length <= 1000000) (h : StP base b m lim w s) {r : Nat} (hr : r < s.t.length) : ∃ gr cr br k,w.cell? ⟨b,2,none⟩ = some (.slice (some ⟨gr,0,none⟩) s.t.length cr) /\ w.cell? ⟨gr,r,none⟩ = some (.slice (some ⟨br,0,none⟩) (2 * g) k) /\ IntsAt w (.slice (some ⟨br,0,none⟩) (2 * g) k) (s.t.row r) := by
 obtain ⟨-,P,vr,vp,vq,bl,cs,hB,hC⟩ := h
 obtain ⟨-,hX,h1,h2⟩ := hC.row r hr
 have hlen := hI.len r hr
 have hfit : Fits (s.t.row r) := fun x hx => by
   obtain ⟨c,hc,rfl⟩ := List.mem_iff_getElem.1 hx
   have := hI.bd r hr c (by omega)
   unfold Tb.at at this
   rw [List.getD_eq_getElem?_getD,List.getElem?_eq_getElem hc] at this
   simp at this
   omega
 obtain ⟨hl,ho⟩ := hC.out
 rcases ho with ⟨-,h0⟩ | ⟨gr,cap,cur,rfl,hb,hCr,h3,hm,hs,ht⟩
 · omega
 · refine ⟨gr,cap,bl r,cs r,hB.cells.2.2.1, ?_,hX.ints hlen (by omega) h2 hfit⟩
   rw [cell_of_row _ _ _ _ _ _ hCr]
   have h2 : (cur.toList.take (s.t.length * 1))[r]? = ((List.range s.t.length).map fun i => Value.slice (some ⟨bl i,0,none⟩) (s.t.row i).length (cs i))[r]? := by rw [ht]
   rw [List.getElem?_take,if_pos (by omega)] at h2
   simpa [hr,hlen] using h2
theorem StP.rows0 {base b m lim : Nat} {w : World} {s : St} (h : StP base b m lim w s) (h1 : 0 < s.t.length) : ∃ gr c,w.cell? ⟨b,2,none⟩ = some (.slice (some ⟨gr,0,none⟩) s.t.length c) := by
 obtain ⟨-,P,vr,vp,vq,bl,cs,hB,hC⟩ := h
 rcases hC.out.2 with ⟨-,h0⟩ | ⟨gr,cap,cur,rfl, -⟩
 · omega
 · exact ⟨gr,cap,hB.cells.2.2.1⟩
end Go.Proofs
