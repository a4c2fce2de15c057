/- The reference's Shorten; The reference's eliminated. -/
import Derived.Test.YtmmbmhjdnlmedaaGreatSiCS25
import Derived.Test.YtmmbmhjdnlmedaaGreatSiCS23
import Derived.Test.YtmmbmhjdnlmedaaGreatSiCS18
namespace Go.Proofs
open Go.RowKit Go.Shelf Go.Lib Go.Sort Go.Proofs.Ct Go.Proofs.Tz Go.Maps
theorem lens_of {n : Nat} {rels : List (List Int)} (he : presE (n : Int) rels = 0) : ∀ j,(rels.getD j []).length <= 8000000 := fun j => by
 rcases Nat.lt_or_ge j rels.length with h | h
 · have h1 := (vld_of he).len
   have h2 : (rels.getD j []).length <= lenL rels := lenL_mem (by rw [List.getD_eq_getElem?_getD,List.getElem?_eq_getElem h]; exact List.getElem_mem h)
   omega
 · rw [List.getD_eq_getElem?_getD,List.getElem?_eq_none h]; simp
set_option maxRecDepth 100000 in
set_option maxHeartbeats 4000000 in
theorem shorten17_ok (w : World) (vr : Value) (n : Nat) (rels : List (List Int)) (hR : Tab w vr rels) (he : presE n rels = 0) : Calls Tryz.prog 17 #[.agg #[.int .i64 (n : Int),vr]] w (ShortenPost n rels w) := by
 obtain ⟨Ar,cr,rfl⟩ := Tab.form hR
 have HC := Lib.hid (vld_of he).clean
 have HPE := Lib.hid he
 have HBN := Lib.hid (ElBox.new w n Ar cr rels.length)
 have HRR := Lib.hid hR
 clear hR he
 go_enter Tryz.func17,Tryz.ntmps17
 go_wp2_with ((with_reducible refine wpList_sel 2 ?_); refine wpList_val rfl (r_alloc40 rfl) ?_)
 generalize hw0 : (w.alloc (.cells #[.int .i64 (n : Int), .slice Ar rels.length cr] 24)).alloc (.cells zero40 24) = w0 at *
 have HB0 := Lib.hid HBN.out.below
 have HBP := Lib.hid HBN.out.arg
 have HBR := Lib.hid HBN.out.res
 have HWS := Lib.hid HBN.out.size
 have H39 := Lib.hid (clean39_ok w0 _ (n : Int) rels (kept_tab.below HRR.out HB0.out) HPE.out)
 clear hw0 HRR HBN
 have HSE : Hid (shortenE rels = match shortF (cleanL rels) with | some l => (l,true) | none => (cleanL rels,false)) := Lib.hid rfl
 generalize cleanL rels = L at *
 go_wp2_with ((with_reducible refine wpList_sel 9 ?_); refine wpList_val rfl (r_loadAt 24 (.tmp 1) _ _ rfl rfl (load40 HBP.out)) ?_)
 refine H39.out.mono ?_
 rintro e w1 ⟨⟨A,c,rfl,ht1⟩,hb⟩
 have HP1 := Lib.hid ((hb.block _ (Array.getElem?_eq_some_iff.1 HBP.out).1).trans HBP.out)
 have HR1 := Lib.hid ((hb.block _ (Array.getElem?_eq_some_iff.1 HBR.out).1).trans HBR.out)
 have HB1 : Hid (Below w.heap.size w w1) := Lib.hid (HB0.out.trans (hb.mono HB0.out.size))
 have HS1 : Hid (w0.heap.size <= w1.heap.size) := Lib.hid hb.size
 have ht2 : TabI w0.heap.size w1.heap.size (w1.setRow w.heap.size #[.int .i64 (n : Int), .slice A L.length c]) (.slice A L.length c) L := ht1.keep fun q h1 h2 => setRow_ne (by have := HWS.out; omega)
 have HT2 := Lib.hid ht2
 have HPS := Lib.hid (setRow_heap w1 w.heap.size _ #[.int .i64 (n : Int), .slice A L.length c] _ _ HP1.out)
 have HRS : Hid ((w1.setRow w.heap.size #[.int .i64 (n : Int), .slice A L.length c]).heap[w.heap.size + 1]? = some (.cells zero40 24 (0,0))) := Lib.hid ((setRow_ne (by omega)).trans HR1.out)
 have HBS : Hid (Below w.heap.size w (w1.setRow w.heap.size #[.int .i64 (n : Int), .slice A L.length c])) := Lib.hid (below_setRow HB1.out (Nat.le_refl _) _)
 have H42 := Lib.hid (shorten42_any (w1.setRow w.heap.size #[.int .i64 (n : Int), .slice A L.length c]) (.slice A L.length c) n L ht2.tab HC.out)
 have HSZ : Hid ((w1.setRow w.heap.size #[.int .i64 (n : Int), .slice A L.length c]).heap.size = w1.heap.size) := Lib.hid (setRow_size _ _ _)
 clear ht1 ht2 hb H39
 generalize hw2 : w1.setRow w.heap.size #[.int .i64 (n : Int), .slice A L.length c] = w2 at *
 have HW2 := Lib.hid hw2
 clear hw2
 go_wp2_with (first
   | ((with_reducible refine wpList_selStore 24 1 11 ?_); refine wpList_skip rfl (r_store40 (.tmp 1) (.tmp 11) rfl w.heap.size _ #[.int .i64 (n : Int), .slice A L.length c] rfl rfl HP1.out rfl rfl (by kernel_rfl)) ?_; rw [HW2.out])
   | ((with_reducible refine wpList_sel 18 ?_); refine wpList_val rfl (r_loadAt 24 (.tmp 1) _ _ rfl rfl (load40 HPS.out)) ?_))
 obtain ⟨LL,hLL⟩ : ∃ LL,LL = (shortenE rels).1 := ⟨_,rfl⟩
 obtain ⟨bb,hbb⟩ : ∃ bb,bb = (shortenE rels).2 := ⟨_,rfl⟩
 have HLL := Lib.hid hLL
 have HBB := Lib.hid hbb
 have H42' : Hid (Calls Tryz.prog 42 #[.agg #[.int .i64 (n : Int), .slice A L.length c]] w2 fun e w' => (∃ A c,e = .returned (.tuple #[.agg #[.int .i64 (n : Int), .slice A LL.length c], .bool bb]) /\ ∃ lo hi,w.heap.size + 2 <= lo /\ hi <= w'.heap.size /\ TabI lo hi w' (.slice A LL.length c) LL) /\ Below w2.heap.size w2 w') := Lib.hid (H42.out.mono fun e w' ⟨h1,h2⟩ => ⟨by
   have hse := HSE.out
   cases hs : shortF L with
   | none =>
     rw [hs] at h1 hse
     have e1 : LL = L := by rw [hLL,hse]
     have e2 : bb = false := by rw [hbb,hse]
     subst e1 e2
     refine ⟨A,c,h1,w0.heap.size,w1.heap.size,by rw [HWS.out]; exact Nat.le_refl _,by have := h2.size; rw [HSZ.out] at this; exact this,HT2.out.below h2 (by rw [HSZ.out]; exact Nat.le_refl _)⟩
   | some l =>
     rw [hs] at h1 hse
     obtain ⟨A5,c5,h3,h4⟩ := h1
     have e1 : LL = l := by rw [hLL,hse]
     have e2 : bb = true := by rw [hbb,hse]
     subst e1 e2
     exact ⟨A5,c5,h3,w2.heap.size,w'.heap.size,by have := HS1.out; have := HWS.out; rw [HSZ.out]; omega,Nat.le_refl _,h4⟩,h2⟩)
 clear hLL hbb H42 HT2 HSE
 refine H42'.out.mono ?_
 rintro e w3 ⟨⟨A5,c5,rfl,lo,hi,hlo,hhi,ht⟩,hb3⟩
 have HR3 := Lib.hid ((hb3.block _ (Array.getElem?_eq_some_iff.1 HRS.out).1).trans HRS.out)
 have HB3 : Hid (Below w.heap.size w w3) := Lib.hid (HBS.out.trans (hb3.mono HBS.out.size))
 obtain ⟨w4,hw4⟩ : ∃ w4,w4 = w3.alloc (.cells #[.int .i64 (n : Int), .slice A5 LL.length c5] 24) := ⟨_,rfl⟩
 have hb4 : Below w3.heap.size w3 w4 := by rw [hw4]; exact (Below.refl _ _).alloc (Nat.le_refl _) _
 have HX4 : Hid (w4.heap[w3.heap.size]? = some (.cells #[.int .i64 (n : Int), .slice A5 LL.length c5] 24 (0,0))) := Lib.hid (by rw [hw4]; exact heap_alloc_new w3 _)
 have HR4 := Lib.hid ((hb4.block _ (Array.getElem?_eq_some_iff.1 HR3.out).1).trans HR3.out)
 have HB4 : Hid (Below w.heap.size w w4) := Lib.hid (HB3.out.trans (hb4.mono HB3.out.size))
 have HT4 : Hid (TabI lo hi w4 (.slice A5 LL.length c5) LL) := Lib.hid (ht.below hb4 hhi)
 have HLO := Lib.hid hlo
 have HW4 := Lib.hid hw4
 clear hb3 hb4 ht hlo hhi hw4
 go_wp2_with (first
   | ((with_reducible refine wpList_sel 22 ?_); rw [<- HW4.out]; refine wpList_val rfl (r_loadAt 24 (.tmp 6) _ _ rfl rfl (load40 HX4.out)) ?_)
   | ((with_reducible refine wpList_selStore 24 2 22 ?_); refine wpList_skip rfl (r_store40 (.tmp 2) (.tmp 22) rfl (w.heap.size + 1) zero40 #[.int .i64 (n : Int), .slice A5 LL.length c5] rfl rfl HR4.out rfl rfl (by kernel_rfl)) ?_))
 try simp only [Exit.inBlock,Exit.then]
 refine bodyPost_ret (results_27 (p := 2) (q := 3) (r := 4) rfl _ _ (w.heap.size + 1) #[.int .i64 (n : Int), .slice A5 LL.length c5] (.bool bb) (.int .i64 0) rfl rfl rfl (setRow_heap _ _ _ _ _ _ HR4.out) rfl) rfl ⟨?_,below_setRow HB4.out (Nat.le_succ _) _⟩
 rw [<- HLL.out, <- HBB.out]
 exact ⟨A5,c5,rfl,(HT4.out.keep fun q h1 h2 => setRow_ne (by have := HLO.out; omega)).tab⟩
set_option maxRecDepth 100000 in
set_option maxHeartbeats 4000000 in
theorem shorten17_bad (w : World) (vr : Value) (n : Int) (rels : List (List Int)) (hR : Tab w vr rels) (hsm : ∀ j,(rels.getD j []).length <= 8000000) (he : presE n rels ≠ 0) : Calls Tryz.prog 17 #[.agg #[.int .i64 n,vr]] w (ShortenErr (presE n rels) w) := by
 obtain ⟨Ar,cr,rfl⟩ := Tab.form hR
 have d1 : (presE n rels != 0) = true := by simpa using he
 have HPB : Hid (∀ w0 : World,w0 = (w.alloc (.cells #[.int .i64 n, .slice Ar rels.length cr] 24)).alloc (.cells zero40 24) -> Below w.heap.size w w0 /\ w0.heap[w.heap.size]? = some (.cells #[.int .i64 n, .slice Ar rels.length cr] 24 (0,0)) /\ w0.heap[w.heap.size + 1]? = some (.cells zero40 24 (0,0))) := Lib.hid fun w0 h => by
   subst h
   refine ⟨((Below.refl _ _).alloc (Nat.le_refl _) _).alloc (by simp) _, ?_, ?_⟩
   · exact (Below.heap_alloc (w.alloc _) _ w.heap.size (by simp)).trans (heap_alloc_new w _)
   · have := heap_alloc_new (w.alloc (.cells #[.int .i64 n, .slice Ar rels.length cr] 24)) (.cells zero40 24); rwa [World.size_alloc] at this
 have H39 : Hid (∀ w0,Below w.heap.size w w0 -> Calls Tryz.prog 39 #[.agg #[.int .i64 n, .slice Ar rels.length cr]] w0 fun e w' => e = .returned (.tuple #[.agg #[.int .i64 0, .slice none 0 0], .int .i64 (presE n rels)]) /\ Below w0.heap.size w0 w') := Lib.hid fun w0 h => clean39_bad w0 _ n rels (kept_tab.below hR h) hsm he
 generalize presE n rels = x at *
 clear hR he hsm
 go_enter Tryz.func17,Tryz.ntmps17
 go_wp2_with ((with_reducible refine wpList_sel 2 ?_); refine wpList_val rfl (r_alloc40 rfl) ?_)
 generalize hw0 : (w.alloc (.cells #[.int .i64 n, .slice Ar rels.length cr] 24)).alloc (.cells zero40 24) = w0 at *
 obtain ⟨hb0,hbp,hbr⟩ := HPB.out w0 rfl
 have HB0 := Lib.hid hb0
 have HBP := Lib.hid hbp
 have HBR := Lib.hid hbr
 clear hw0 hb0 hbp hbr HPB
 go_wp2_with ((with_reducible refine wpList_sel 9 ?_); refine wpList_val rfl (r_loadAt 24 (.tmp 1) _ _ rfl rfl (load40 HBP.out)) ?_)
 refine (H39.out w0 HB0.out).mono ?_
 rintro e w1 ⟨rfl,hb⟩
 have HP1 := Lib.hid ((hb.block _ (Array.getElem?_eq_some_iff.1 HBP.out).1).trans HBP.out)
 have HR1 := Lib.hid ((hb.block _ (Array.getElem?_eq_some_iff.1 HBR.out).1).trans HBR.out)
 have HB1 : Hid (Below w.heap.size w w1) := Lib.hid (HB0.out.trans (hb.mono HB0.out.size))
 have HR2 : Hid ((w1.setRow w.heap.size zero40).heap[w.heap.size + 1]? = some (.cells zero40 24 (0,0))) := Lib.hid ((setRow_ne (by omega)).trans HR1.out)
 clear hb H39
 go_wp2_with (first
   | ((with_reducible refine wpList_selStore 24 1 11 ?_); refine wpList_skip rfl (r_store40 (.tmp 1) (.tmp 11) rfl w.heap.size _ zero40 rfl rfl HP1.out rfl rfl zero40_one) ?_)
   | ((with_reducible refine wpList_sel 15 ?_); refine wpList_val rfl (r_build40 rfl) ?_; refine wpList_val rfl (r_move (v := .int .i64 x) (.tmp 5) rfl rfl) ?_; refine wpList_skip rfl (r_store40 (.tmp 2) (.tmp 15) rfl (w.heap.size + 1) zero40 zero40 rfl rfl HR2.out rfl rfl zero40_one) ?_))
 try simp only [Exit.inBlock,Exit.then]
 exact bodyPost_ret (results_27 (p := 2) (q := 3) (r := 4) rfl _ _ (w.heap.size + 1) zero40 (.bool false) (.int .i64 x) rfl rfl rfl (setRow_heap _ _ _ _ _ _ HR2.out) rfl) rfl ⟨rfl,below_setRow (below_setRow HB1.out (Nat.le_refl _) _) (Nat.le_succ _) _⟩
end Go.Proofs
namespace Go.Proofs
open Go.RowKit Go.Shelf Go.Lib Go.Sort Go.Proofs.Ct Go.Proofs.Tz Go.Maps
theorem bs35e (w : World) : (Instr.buildSlice 35 0 #[]).run Tryz.prog w = .ok (.slice (some ⟨w.heap.size,0,none⟩) 0 0) (w.alloc (.cells #[] 3)) := by kernel_rfl
theorem r_bs35e {o : Oper} {a : Act} {w : World} (ho : o.op = .buildSlice 35 0 #[]) : (execOp a.eval o).run Tryz.prog w = .ok (.value (.slice (some ⟨w.heap.size,0,none⟩) 0 0)) (w.alloc (.cells #[] 3)) := by
 have hb := bs35e w
 unfold execOp
 simp only [ho,List.map_toArray,List.map_nil,Sem.run_bind,hb,Result.andThen_ok]
 rfl
theorem own_empty35 {base b : Nat} {w : World} (hb : base <= b) (h : w.heap[b]? = some (.cells #[] 3 (0,0))) : OwnI base w (.slice (some ⟨b,0,none⟩) 0 0) [] :=
 ⟨rfl, .inr ⟨b,0,_,rfl,hb,h,Nat.le_refl _,by simp [maxLen],rfl,rfl⟩⟩
theorem under35w : Tryz.prog.underlying 35 = some (.slice (Tryz.prog.elem 35)) := by kernel_rfl
theorem size35w (w : World) : (Go.sizeOf (Tryz.prog.elem 35)).run Tryz.prog w = .ok 1 w := by kernel_rfl
theorem results_46 {fn : Func} {p q r t z : Tmp} (h : fn.results = #[.cell p 24, .tmp q, .tmp r, .tmp t, .tmp z]) (tmps : Array Value) (w : World) (g : Nat) (cs : Array Value) (u v x y : Value)
   (hp : tmps.getD p undef = .pointer (some ⟨g,0,none⟩)) (hq : tmps.getD q undef = u) (hr : tmps.getD r undef = v) (ht : tmps.getD t undef = x) (hz : tmps.getD z undef = y) (hg : w.heap[g]? = some (.cells cs 24 (0,0))) (hs : cs.size = 2) :
   (results fn tmps).run Tryz.prog w = .ok (.tuple #[.agg cs,u,v,x,y]) w := by
 have hp' : tmps[p]?.getD undef = .pointer (some ⟨g,0,none⟩) := by simpa using hp
 have hq' : tmps[q]?.getD undef = u := by simpa using hq
 have hr' : tmps[r]?.getD undef = v := by simpa using hr
 have ht' : tmps[t]?.getD undef = x := by simpa using ht
 have hz' : tmps[z]?.getD undef = y := by simpa using hz
 simp [results,h,hp',hq',hr',ht',hz',asAddr,run_loadVar_row w g 24 24 cs (0,0) _ hg Tryz.underlying24 rfl (by rw [hs]; exact info40s)]
def REl46 (vr vi vb : Value) (s : Sp) (w : World) (e : Ending) (w' : World) : Prop :=
 (match s.elim with
 | none => e = .returned (.tuple #[.agg #[.int .i64 (s.n : Int),vr],vi,vb, .bool false, .int .i64 0])
 | some (.inr _) => e = .returned (.tuple #[.agg #[.int .i64 (s.n : Int),vr],vi,vb, .bool false, .int .i64 4])
 | some (.inl s') => ∃ A a B b C c,e = .returned (.tuple #[.agg #[.int .i64 (s'.n : Int), .slice A s'.rels.length a], .slice B s'.into.length b, .slice C s'.back.length c, .bool true, .int .i64 0]) /\ TabI w.heap.size w'.heap.size w' (.slice A s'.rels.length a) s'.rels /\ TabI w.heap.size w'.heap.size w' (.slice B s'.into.length b) s'.into /\ OwnI w.heap.size w' (.slice C s'.back.length c) s'.back) /\ Below w.heap.size w w'
set_option maxRecDepth 100000 in
set_option maxHeartbeats 4000000 in
theorem eliminated46_any (n0 : Nat) (s : Sp) (w : World) (vr vi vb : Value) (hR : Tab w vr s.rels) (hI : Tab w vi s.into) (hB : IntsAt w vb s.back) (hO : Okay n0 s) (hn0 : n0 <= 16) (hil : ∀ z ∈ s.into,z.length <= 4000) : Calls Tryz.prog 46 #[.agg #[.int .i64 (s.n : Int),vr],vi,vb] w (REl46 vr vi vb s w) := by
 obtain ⟨Ar,cr,rfl⟩ := Tab.form hR
 obtain ⟨Ai,ci,rfl⟩ := Tab.form hI
 obtain ⟨Ab,cb,rfl,hcb, -, -⟩ := hB.open_
 have HO := Lib.hid hO
 have HIL := Lib.hid hil
 have HCB := Lib.hid hcb
 have HBK := Lib.hid hB
 have HRR := Lib.hid hR
 have HII := Lib.hid hI
 have HBN := Lib.hid (ElBox.new w s.n Ar cr s.rels.length)
 have hL0 : (0 : Int) <= (s.rels.length : Int) := Int.natCast_nonneg _
 have hL1 : (s.rels.length : Int) <= 100 := by have := hO.cln.many; omega
 have hN0 : (0 : Int) <= (s.n : Int) := Int.natCast_nonneg _
 have hN1 : (s.n : Int) <= 16 := by have := hO.cln.n16; omega
 have hJ0 : (0 : Int) <= (s.into.length : Int) := Int.natCast_nonneg _
 have hJ1 : (s.into.length : Int) <= 16 := by have := hO.il; omega
 have HPE : Hid (presE (s.n : Int) s.rels = 0) := Lib.hid (presE_of ⟨hO.cln.n1,hO.cln.n16⟩ hO.cln.many hO.cln.ok hO.cln.len)
 have HSM := Lib.hid (lens_of HPE.out)
 clear hR hI hB hO hil hcb
 go_enter Tryz.func46,Tryz.ntmps46
 go_wp2_with ((with_reducible refine wpList_sel 6 ?_); refine wpList_val rfl (r_alloc40 rfl) ?_)
 generalize hw0 : (w.alloc (.cells #[.int .i64 (s.n : Int), .slice Ar s.rels.length cr] 24)).alloc (.cells zero40 24) = w0 at *
 have HBX := Lib.hid fun W (hb : Below w0.heap.size w0 W) => HBN.out.at_ hb
 have HB0 := Lib.hid HBN.out.below
 have HWS := Lib.hid HBN.out.size
 have HR0 := Lib.hid (kept_tab.below HRR.out HB0.out)
 have HI0 := Lib.hid (kept_tab.below HII.out HB0.out)
 clear hw0 HRR HBN HII
 have HROW : Hid (0 < s.into.length -> ∃ b o,Ai = some ⟨b,o,none⟩ /\ ∀ W,Below w0.heap.size w0 W -> ∀ i,i < s.into.length -> ∃ Au cu,W.cell? ⟨b,o + i,none⟩ = some (.slice Au (s.into.getD i []).length cu) /\ IntsAt W (.slice Au (s.into.getD i []).length cu) (s.into.getD i [])) := Lib.hid fun h0 => by
   obtain ⟨b,o,e,h⟩ := words_f2 HI0.out h0
   exact ⟨b,o,e,h⟩
 go_wp2_with fail
 go_loopw [7,8,9,10,11,12] (fun _ _ _ _ z _ wr => ∃ i : Nat,i <= s.rels.length /\ z = .int .i64 (i : Int) /\ Hid ((∀ a,a < i -> ∀ g,1 <= g -> g <= s.n -> ∃ x,elimE s.n s.rels a g = .inr x) /\ Below w0.heap.size w0 wr)) (fun _ _ _ _ z _ _ => s.rels.length - (intOf z).toNat)
 case atStart => exact ⟨0,Nat.zero_le _,rfl,Lib.hid ⟨fun a ha => absurd ha (Nat.not_lt_zero a),Below.refl _ _⟩⟩
 case round =>
   obtain ⟨i,hi,rfl,HD⟩ := hrel
   have hi0 : (0 : Int) <= (i : Int) := Int.natCast_nonneg _
   obtain ⟨⟨x0,x1⟩,x2,x3⟩ := HBX.out wr HD.out.2
   by_cases hlt : i < s.rels.length
   · have hlt' : (i : Int) < (s.rels.length : Int) := by omega
     obtain ⟨wi,hwi⟩ : ∃ wi,wi = wr := ⟨_,rfl⟩
     rw [<- hwi] at HD x0 x1 ⊢
     clear hwi x2 x3
     go_wp2_with fail
     go_loopw [7,8,9,10,12] (fun _ _ _ _ z wr => ∃ g : Nat,g <= s.n /\ z = .int .i64 (g : Int) /\ Hid ((∀ g',g < g' -> g' <= s.n -> ∃ x,elimE s.n s.rels i g' = .inr x) /\ Below w0.heap.size w0 wr)) (fun _ _ _ _ z _ => (intOf z).toNat)
     case atStart => exact ⟨s.n,Nat.le_refl _,rfl,Lib.hid ⟨fun g' h1 h2 => absurd h1 (by omega),HD.out.2⟩⟩
     case round =>
       clear x0 x1
       obtain ⟨g,hg,rfl,HG⟩ := hrel
       have hg0 : (0 : Int) <= (g : Int) := Int.natCast_nonneg _
       have hg16 : (g : Int) <= 16 := by omega
       by_cases hgp : 1 <= g
       · have hgp' : (1 : Int) <= (g : Int) := by omega
         obtain ⟨-,x2, -⟩ := HBX.out wr HG.out.2
         have HX2 := Lib.hid x2
         have hE := elim10_any wr (.slice Ar s.rels.length cr) s.n s.rels i g (kept_tab.below HR0.out HG.out.2) HSM.out HPE.out hlt ⟨hgp,hg⟩
         clear x2
         unfold RElimPost at hE
         cases hel : elimE s.n s.rels i g with
         | inr x =>
           rw [hel] at hE
           have hx := elimE_inr hel
           have hx0 : (x == 0) = false := by rw [beq_eq_false_iff_ne]; omega
           have HC := Lib.hid hE
           have HNEW : Hid (∀ g',g - 1 < g' -> g' <= s.n -> ∃ x,elimE s.n s.rels i g' = .inr x) := Lib.hid fun g' h1 h2 => by
             by_cases he : g' = g
             · rw [he]; exact ⟨x,hel⟩
             · exact HG.out.1 g' (by omega) h2
           clear hE hel hx
           go_wp2_with first
             | ((with_reducible refine wpList_sel 34 ?_); refine wpList_val rfl (r_loadAt 24 (.tmp 3) _ _ rfl rfl (load40 HX2.out)) ?_)
             | (go_at_call 10; (refine HC.out.mono ?_); rintro e w2 ⟨rfl,hb2⟩
                have HB2 : Hid (Below w0.heap.size w0 (w2.alloc (.cells #[.int .i64 0, .slice none 0 0] 24))) := Lib.hid (HG.out.2.trans ((hb2.alloc hb2.size _).mono HG.out.2.size))
                clear hb2)
           go_roundw
           case rel => exact ⟨g - 1,by omega,by rw [Int.ofNat_sub hgp]; go_num,Lib.hid ⟨HNEW.out,HB2.out⟩⟩
           case measure => simp [intOf]; omega
         | inl q =>
           obtain ⟨l,im⟩ := q
           rw [hel] at hE
           have HC := Lib.hid hE
           have hfe : firstE s.n s.rels = some ((l,im),g) := firstE_at HD.out.1 HG.out.1 hlt ⟨hgp,hg⟩ hel
           have HEL : Hid (s.elim = some (match sbL im s.into with | none => .inr () | some m => .inl ⟨s.n - 1,l,m,s.back.eraseIdx (g - 1)⟩)) := Lib.hid (by
             unfold Sp.elim
             rw [hfe]
             rfl)
           obtain ⟨hn2,hcln,himl,himok,him1⟩ := elim_cln HO.out.cln.vld hlt ⟨hgp,hg⟩ hel
           have HIML := Lib.hid himl
           have HIMO := Lib.hid himok
           have HIM1 := Lib.hid him1
           have HN2 := Lib.hid hn2
           obtain ⟨g1,hg1⟩ : ∃ g1,g = g1 + 1 := ⟨g - 1,by omega⟩
           have HG1 := Lib.hid hg1
           clear hE hel himl himok him1 hcln hg1 hfe hn2
           go_upto_region 10 with first
             | ((with_reducible refine wpList_sel 34 ?_); refine wpList_val rfl (r_loadAt 24 (.tmp 3) _ _ rfl rfl (load40 HX2.out)) ?_)
             | (go_at_call 10; (refine HC.out.mono ?_); rintro e w2 ⟨⟨A5,c5,B5,d5,rfl,h5,h6⟩,hb2⟩
                have HB2 := Lib.hid hb2
                have HT5 := Lib.hid h5
                have HT6 := Lib.hid h6
                clear hb2 h5 h6)
           obtain ⟨w3,hw3⟩ : ∃ w3,w3 = w2.alloc (.cells #[.int .i64 ((s.n : Int) - 1), .slice A5 l.length c5] 24) := ⟨_,rfl⟩
           rw [<- hw3]
           have hb23 : Below w2.heap.size w2 w3 := by rw [hw3]; exact (Below.refl _ _).alloc (Nat.le_refl _) _
           obtain ⟨qb,hqb⟩ : ∃ qb,qb = w2.heap.size := ⟨_,rfl⟩
           have HQ3 : Hid (w3.heap[qb]? = some (.cells #[.int .i64 ((s.n : Int) - 1), .slice A5 l.length c5] 24 (0,0))) := Lib.hid (by rw [hw3,hqb]; exact heap_alloc_new w2 _)
           have HB3 : Hid (Below w0.heap.size w0 w3) := Lib.hid ((HG.out.2.trans (HB2.out.mono HG.out.2.size)).trans (hb23.mono (HG.out.2.trans (HB2.out.mono HG.out.2.size)).size))
           have HT53 : Hid (TabI wr.heap.size w3.heap.size w3 (.slice A5 l.length c5) l) := Lib.hid ((HT5.out.below hb23 (Nat.le_refl _)).mono (Nat.le_refl _) hb23.size)
           have HT63 : Hid (Tab w3 (.slice B5 im.length d5) im) := Lib.hid (HT6.out.below hb23 (Nat.le_refl _)).tab
           have HWR : Hid (w0.heap.size <= wr.heap.size /\ w.heap.size + 2 <= w0.heap.size /\ w0.heap.size <= qb) := Lib.hid ⟨HG.out.2.size,by have := HWS.out; omega,by rw [hqb]; exact Nat.le_trans HG.out.2.size HB2.out.size⟩
           rw [<- hqb]
           clear hw3 hqb hb23 HC HB2 HT5 HT6
           generalize wr = w1 at *
           go_wp2_with fail
           go_loopw [7,8,9,10,16,17] (fun _ _ _ _ v6 v7 wr => ∃ (k : Nat) (A : Option Addr) (c : Nat) (F : Nat -> Prop),k <= s.into.length /\ v6 = .slice A k c /\ v7 = .int .i64 (k : Int) /\ Hid (OutSt 36 F w3 wr (.slice A k c) ((s.into.take k).map (sbW im)) /\ ∀ x ∈ (s.into.take k).map (sbW im),x.length <= 4000)) (fun _ _ _ _ _ v7 _ => s.into.length - (intOf v7).toNat)
           case atStart => exact ⟨0,none,0,_,Nat.zero_le _,rfl,rfl,Lib.hid ⟨OutSt.nil 36 (Below.refl _ _),fun x hx => by simp at hx⟩⟩
           case round =>
             obtain ⟨k,A7,c7,F,hk,rfl,rfl,HK⟩ := hrel
             have hk0 : (0 : Int) <= (k : Int) := Int.natCast_nonneg _
             by_cases hkl : k < s.into.length
             · have hkl' : (k : Int) < (s.into.length : Int) := by omega
               obtain ⟨b,o,rfl,hrow⟩ := HROW.out (by omega)
               have HB3R := Lib.hid (HB3.out.trans (HK.out.1.below.mono HB3.out.size))
               obtain ⟨Au,cu,x5,hiu⟩ := hrow wr HB3R.out k hkl
               have HSUB := Lib.hid (subst38_ok wr _ (.slice B5 im.length d5) (s.into.getD k []) im hiu (kept_tab.below HT63.out HK.out.1.below) (HIL.out _ (getD_mem' hkl)) (fun x hx => by
                 have h1 := HO.out.io _ (getD_mem' hkl) x hx
                 rw [HIML.out]
                 unfold Mild
                 omega) (fun j y hy => mild_ok (g := s.n - 1) (by omega) (HIMO.out _ (mem_getD hy)) y hy) (fun j => by
                 rcases Nat.lt_or_ge j im.length with hj | hj
                 · exact HIM1.out _ (getD_mem' hj)
                 · rw [List.getD_eq_getElem?_getD,List.getElem?_eq_none hj]; exact Nat.zero_le _))
               have HTK : Hid ((s.into.take (k + 1)).map (sbW im) = (s.into.take k).map (sbW im) ++ [sbW im (s.into.getD k [])]) := Lib.hid (by
                 rw [List.take_succ_eq_append_getElem hkl,List.map_append,List.getD_eq_getElem?_getD,List.getElem?_eq_getElem hkl]
                 rfl)
               have HFL : Hid (4000 < (sbW im (s.into.getD k [])).length -> sbL im s.into = none) := Lib.hid fun h => sbL_fail (getD_mem' hkl) h
               have HTL : Hid (((s.into.take k).map (sbW im)).length = k) := Lib.hid (by rw [List.length_map,List.length_take]; omega)
               have HFI : Hid (Fits (sbW im (s.into.getD k []))) := Lib.hid (Mild.fits (sbTo_mild (fun j y hy => mild_ok (g := s.n - 1) (by omega) (HIMO.out _ (mem_getD hy)) y hy) _ _))
               generalize (s.into.getD k []).length = lu at *
               clear hrow hiu
               unfold SubPost at HSUB
               by_cases hlong : (sbW im (s.into.getD k [])).length <= 4000
               · simp only [if_pos hlong] at HSUB
                 have HLG := Lib.hid hlong
                 go_wp2_with fail
                 refine HSUB.out.mono ?_
                 rintro e w6 ⟨⟨A9,c9,rfl,ho⟩,hb⟩
                 obtain ⟨A8,c8,w8,hr8,hS8⟩ := (HK.out.1.with_row hb ho).done (by decide) Tryz.underlying22 info25p HFI.out (by rw [HTL.out]; omega)
                 rw [HTL.out] at hr8 hS8
                 rw [<- HTK.out] at hS8
                 have HR8 := Lib.hid hr8
                 have HS8 := Lib.hid hS8
                 have HAL : Hid (∀ x ∈ (s.into.take (k + 1)).map (sbW im),x.length <= 4000) := Lib.hid (by
                   rw [HTK.out]
                   intro x hx
                   rcases List.mem_append.1 hx with h | h
                   · exact HK.out.2 x h
                   · rw [List.mem_singleton.1 h]; exact HLG.out)
                 clear hr8 hS8 ho hb HK x5 hlong
                 generalize (sbW im (s.into.getD k [])).length = ls at *
                 go_wp2_with ((with_reducible refine wpList_sel 66 ?_); refine wpList_val rfl (r_app (.tmp 63) (.tmp 65) 22 rfl rfl rfl HR8.out) ?_)
                 go_roundw
                 case rel => exact ⟨k + 1,A8,c8,_,by omega,rfl,by go_num,Lib.hid ⟨HS8.out,HAL.out⟩⟩
                 case measure => simp [intOf]; omega
               · simp only [if_neg hlong] at HSUB
                 have HNO := Lib.hid (HFL.out (by omega))
                 obtain ⟨-,x6,x7⟩ := HBX.out wr HB3R.out
                 have HX6 := Lib.hid x6
                 have HX7 := Lib.hid x7
                 clear x6 x7 hlong
                 go_wp2_with fail
                 refine HSUB.out.mono ?_
                 rintro e w6 ⟨rfl,hb⟩
                 have HX9 := Lib.hid ((hb.block _ (Array.getElem?_eq_some_iff.1 HX7.out).1).trans HX7.out)
                 have HX8 := Lib.hid ((hb.block _ (Array.getElem?_eq_some_iff.1 HX6.out).1).trans HX6.out)
                 have HB9 := Lib.hid (HB0.out.trans ((HB3R.out.trans (hb.mono HB3R.out.size)).mono HB0.out.size))
                 clear hb x5
                 go_wp2_with (first
                   | ((with_reducible refine wpList_sel 60 ?_); refine wpList_val rfl (r_loadAt 24 (.tmp 3) _ _ rfl rfl (load40 HX8.out)) ?_)
                   | ((with_reducible refine wpList_selStore 24 6 60 ?_); refine wpList_skip rfl (r_store40 (.tmp 6) (.tmp 60) rfl (w.heap.size + 1) zero40 #[.int .i64 (s.n : Int), .slice Ar s.rels.length cr] rfl rfl HX9.out rfl rfl (by kernel_rfl)) ?_))
                 try simp only [Exit.inBlock,Exit.then]
                 exact bodyPost_ret (results_46 (p := 6) (q := 7) (r := 8) (t := 9) (z := 10) rfl _ _ (w.heap.size + 1) #[.int .i64 (s.n : Int), .slice Ar s.rels.length cr] (.slice (some ⟨b,o,none⟩) s.into.length ci) (.slice Ab s.back.length cb) (.bool false) (.int .i64 4) rfl rfl rfl rfl rfl (setRow_heap _ _ _ _ _ _ HX9.out) rfl) rfl ⟨by rw [HEL.out,HNO.out],below_setRow HB9.out (Nat.le_succ _) _⟩
             · obtain rfl : s.into.length = k := by omega
               rw [List.take_of_length_le (Nat.le_refl _)] at HK
               have HSM2 : Hid (s.elim = some (.inl ⟨s.n - 1,l,s.into.map (sbW im),s.back.eraseIdx g1⟩)) := Lib.hid (by
                 rw [HEL.out,sbL_good2 HK.out.2,HG1.out]
                 rfl)
               have hbl : s.back.length = s.n := HO.out.bl
               have hg1l : g1 < s.back.length := by have := HG1.out; omega
               obtain ⟨Ch,hch1,hch2⟩ := ints_sliced (k := 0) (h := g1) HBK.out (Nat.zero_le _) (by omega)
               obtain ⟨Cl,hcl1,hcl2⟩ := ints_sliced (k := g) (h := s.back.length) HBK.out (by omega) (Nat.le_refl _)
               rw [Nat.sub_zero,Nat.sub_zero,List.drop_zero] at hch2
               rw [Nat.sub_zero,Nat.sub_zero] at hch1
               rw [List.take_of_length_le (Nat.le_refl _)] at hcl2
               obtain ⟨nl,hnl⟩ : ∃ nl,nl = s.back.length - g := ⟨_,rfl⟩
               obtain ⟨cl,hcl⟩ : ∃ cl,cl = cb - g := ⟨_,rfl⟩
               rw [<- hnl, <- hcl] at hcl1 hcl2
               have HER : Hid (s.back.take g1 ++ s.back.drop g = s.back.eraseIdx g1) := Lib.hid (by rw [List.eraseIdx_eq_take_drop_succ,HG1.out])
               have HTL : Hid ((s.back.take g1).length = g1) := Lib.hid (by rw [List.length_take]; omega)
               obtain ⟨nb1,hnb1⟩ : ∃ nb1,nb1 = (s.back.eraseIdx g1).length := ⟨_,rfl⟩
               have HNB1 := Lib.hid hnb1
               have HGL := Lib.hid hg1l
               have HBLN := Lib.hid hbl
               have HCH1 := Lib.hid hch1
               have HCH2 := Lib.hid hch2
               have HCL1 := Lib.hid hcl1
               have HCL2 := Lib.hid hcl2
               have HCBG : Hid (g1 <= cb /\ g <= s.back.length) := Lib.hid ⟨by have := HCB.out; omega,by omega⟩
               have HGM : Hid (g1 <= 1000000) := Lib.hid (by have := HG1.out; omega)
               clear hbl hg1l hch1 hch2 hcl1 hcl2 hnl hcl hnb1
               go_upto_region 17 with fail
               obtain ⟨rb,hrb⟩ : ∃ rb,rb = w.heap.size + 1 := ⟨_,rfl⟩
               have hbr := HB3.out.trans (HK.out.1.below.mono HB3.out.size)
               have HBR : Hid (Below w.heap.size w wr) := Lib.hid (HB0.out.trans (hbr.mono HB0.out.size))
               have HRX : Hid (wr.heap[rb]? = some (.cells zero40 24 (0,0))) := Lib.hid (by rw [hrb]; exact (HBX.out wr hbr).2.2)
               have HQX : Hid (wr.heap[qb]? = some (.cells #[.int .i64 ((s.n : Int) - 1), .slice A5 l.length c5] 24 (0,0))) := Lib.hid ((HK.out.1.below.block _ (Array.getElem?_eq_some_iff.1 HQ3.out).1).trans HQ3.out)
               have HRB : Hid (w.heap.size <= rb /\ rb < w0.heap.size /\ qb ≠ rb /\ w0.heap.size <= wr.heap.size) := Lib.hid ⟨by omega,by have := HWR.out; omega,by have := HWR.out; omega,hbr.size⟩
               have HRBE := Lib.hid hrb
               have HQL : Hid (rb < wr.heap.size /\ qb < wr.heap.size) := Lib.hid ⟨(Array.getElem?_eq_some_iff.1 HRX.out).1,(Array.getElem?_eq_some_iff.1 HQX.out).1⟩
               clear hbr
               rw [<- hrb]
               clear hrb
               refine (wpIn_wide (n := 3)).1 ?_
               refine wpIn_region_act (by kernel_rfl) 17 rfl (fun i => if i < 12 then some (67 + i) else if i = 12 then none else some (i - 6)) (lex_of (by kernel_rfl))
                 (fun ls a W => (Below w.heap.size w W /\ BelX (fun q => q = rb) wr W) /\
 (ls 12 = false -> W.heap[rb]? = some (.cells zero40 24 (0,0))) /\
 (ls 2 = true -> ls 7 = false -> ∃ b,slotv a (some 69) = .slice (some ⟨b,0,none⟩) 0 0 /\ wr.heap.size <= b /\ W.heap[b]? = some (.cells #[] 3 (0,0))) /\
 (ls 7 = true -> ls 11 = false -> ∃ A1 c1,slotv a (some 74) = .slice A1 g1 c1 /\ OwnI wr.heap.size W (.slice A1 g1 c1) (s.back.take g1)) /\
 (ls 11 = true -> ∃ A1 c1,slotv a (some 78) = .slice A1 nb1 c1 /\ OwnI wr.heap.size W (.slice A1 nb1 c1) (s.back.eraseIdx g1) /\ (ls 14 = true -> slotv a (some 8) = .slice A1 nb1 c1)) /\
 (ls 12 = true → W.heap[rb]? = some (.cells #[.int .i64 ((s.n : Int) - 1), .slice A5 l.length c5] 24 (0,0))))
                 (fun i v _ => i = 2 \/ i = 7 \/ i = 11 \/ i = 14 \/ v = ([.agg #[.int .i64 ((s.n : Int) - 1), .slice A5 l.length c5], .slice A7 s.into.length c7,undef, .slice Ab s.back.length cb, .int .i64 (g : Int), .int .i64 (g1 : Int), .slice Ch g1 cb,undef, .slice Ab s.back.length cb, .int .i64 (g : Int), .slice Cl nl cl,undef,undef, .slice A7 s.into.length c7,undef, .bool true, .int .i64 0] : List Value).getD i undef)
                 (fun _ _ _ => True) (dm_inj (by kernel_rfl)) (fun _ _ _ _ _ _ _ _ _ h => h) (dm_lt (n := 82) (by kernel_rfl)) ?_ ?_ ?_
               · exact ⟨⟨HBR.out.trans (Below.refl _ _).drew,BelX.of_below (Below.refl wr.heap.size wr).drew⟩,fun _ => HRX.out,fun h => by simp at h,fun h => by simp at h,fun h => by simp at h,fun h => by simp at h⟩
               · intro ls q o' a w6 hq ho hS hls hcl hP hpre
                 obtain ⟨⟨hS1,hS1x⟩,hS2,hS3,hS4,hS5,hS6⟩ := hS
                 have hcases : q = 0 \/ q = 1 \/ q = 2 \/ q = 3 \/ q = 4 \/ q = 5 \/ q = 6 \/ q = 7 \/ q = 8 \/ q = 9 \/ q = 10 \/ q = 11 \/ q = 12 \/ q = 13 \/ q = 14 \/ q = 15 \/ q = 16 := by
                   have : q < 17 := hq
                   omega
                 have hasz : a.tmps.size = 82 := hP.size
                 have hz6 : wr.heap.size <= w6.heap.size := hS1x.size
                 have hkp : ∀ (q t : Nat) (v : Value),q ≠ 2 -> q ≠ 7 -> q ≠ 11 -> q ≠ 12 -> q ≠ 14 -> t ≠ 69 -> t ≠ 74 -> t ≠ 78 -> t ≠ 8 -> ((Below w.heap.size w w6 /\ BelX (fun q => q = rb) wr w6) /\
 ((fun j => if q = j then true else ls j) 12 = false -> w6.heap[rb]? = some (.cells zero40 24 (0,0))) /\
 ((fun j => if q = j then true else ls j) 2 = true -> (fun j => if q = j then true else ls j) 7 = false -> ∃ b,slotv (a.put (some t) v) (some 69) = .slice (some ⟨b,0,none⟩) 0 0 /\ wr.heap.size <= b /\ w6.heap[b]? = some (.cells #[] 3 (0,0))) /\
 ((fun j => if q = j then true else ls j) 7 = true -> (fun j => if q = j then true else ls j) 11 = false -> ∃ A1 c1,slotv (a.put (some t) v) (some 74) = .slice A1 g1 c1 /\ OwnI wr.heap.size w6 (.slice A1 g1 c1) (s.back.take g1)) /\
 ((fun j => if q = j then true else ls j) 11 = true -> ∃ A1 c1,slotv (a.put (some t) v) (some 78) = .slice A1 nb1 c1 /\ OwnI wr.heap.size w6 (.slice A1 nb1 c1) (s.back.eraseIdx g1) /\ ((fun j => if q = j then true else ls j) 14 = true -> slotv (a.put (some t) v) (some 8) = .slice A1 nb1 c1)) /\
 ((fun j => if q = j then true else ls j) 12 = true -> w6.heap[rb]? = some (.cells #[.int .i64 ((s.n : Int) - 1), .slice A5 l.length c5] 24 (0,0)))) := fun q t v h0 h1 h2 h3 h4 h5 h6 h7 h8 => by
                   simp only [if_neg h0,if_neg h1,if_neg h2,if_neg h3,if_neg h4,slotv_put_ne h5,slotv_put_ne h6,slotv_put_ne h7,slotv_put_ne h8]
                   exact ⟨⟨hS1,hS1x⟩,hS2,hS3,hS4,hS5,hS6⟩
                 have hal : ∀ o : Obj,Below w6.heap.size w6 (w6.alloc o) := fun o => (Below.refl _ _).alloc (Nat.le_refl _) _
                 have hqx : w6.heap[qb]? = some (.cells #[.int .i64 ((s.n : Int) - 1), .slice A5 l.length c5] 24 (0,0)) := (hS1x.block qb HQL.out.2 HRB.out.2.2.1).trans HQX.out
                 have hrl6 : rb < w6.heap.size := Nat.lt_of_lt_of_le HQL.out.1 hz6
                 rcases hcases with rfl | rfl | rfl | rfl | rfl | rfl | rfl | rfl | rfl | rfl | rfl | rfl | rfl | rfl | rfl | rfl | rfl
                 · obtain rfl := Option.some.inj ho
                   exact wpOpIn_of rfl rfl (wpW_val (r_loadAt 24 (.tmp 13) _ _ rfl (hP.out 13 (dm_out (by kernel_rfl))) (load40 hqx)) ⟨_,rfl,hkp 0 67 _ (by decide) (by decide) (by decide) (by decide) (by decide) (by decide) (by decide) (by decide) (by decide),trivial,(fun h => by simp at h), .inr (.inr (.inr (.inr (rfl))))⟩)
                 · obtain rfl := Option.some.inj ho
                   exact wpOpIn_of rfl rfl (wpW_val (r_move (.tmp 16) rfl (hP.out 16 (dm_out (by kernel_rfl)))) ⟨_,rfl,hkp 1 68 _ (by decide) (by decide) (by decide) (by decide) (by decide) (by decide) (by decide) (by decide) (by decide),trivial,(fun h => by simp at h), .inr (.inr (.inr (.inr (rfl))))⟩)
                 · obtain rfl := Option.some.inj ho
                   have n7 := not_yet hcl 7 rfl ⟨2, .data⟩ (by simp) rfl hls
                   have n11 := not_yet hcl 11 rfl ⟨7, .data⟩ (by simp) rfl n7
                   have n14 := not_yet hcl 14 rfl ⟨11, .data⟩ (by simp) rfl n11
                   refine wpOpIn_of rfl rfl (wpW_val (r_bs35e rfl) ⟨_,rfl,⟨?_, ?_, ?_, ?_, ?_, ?_⟩,trivial,(fun h => by simp at h), .inl rfl⟩)
                   · exact ⟨hS1.trans ((hal _).mono (Nat.le_trans hS1.size (Nat.le_refl _))),hS1x.trans (BelX.of_below (hal _))⟩
                   · intro h; exact ((hal _).block rb hrl6).trans (hS2 (by simpa using h))
                   · intro _ _; exact ⟨w6.heap.size,slotv_same (by rw [hasz]; decide),hz6,heap_alloc_new w6 _⟩
                   · intro h; simp [n7] at h
                   · intro h; simp [n11] at h
                   · intro h; exact ((hal _).block rb hrl6).trans (hS6 (by simpa using h))
                 · obtain rfl := Option.some.inj ho
                   exact wpOpIn_of rfl rfl (wpW_val (r_move (.tmp 2) rfl (hP.out 2 (dm_out (by kernel_rfl)))) ⟨_,rfl,hkp 3 70 _ (by decide) (by decide) (by decide) (by decide) (by decide) (by decide) (by decide) (by decide) (by decide),trivial,(fun h => by simp at h), .inr (.inr (.inr (.inr (rfl))))⟩)
                 · obtain rfl := Option.some.inj ho
                   exact wpOpIn_of rfl rfl (wpW_val (r_move (.tmp 12) rfl (hP.out 12 (dm_out (by kernel_rfl)))) ⟨_,rfl,hkp 4 71 _ (by decide) (by decide) (by decide) (by decide) (by decide) (by decide) (by decide) (by decide) (by decide),trivial,(fun h => by simp at h), .inr (.inr (.inr (.inr (rfl))))⟩)
                 · obtain rfl := Option.some.inj ho
                   exact wpOpIn_of rfl rfl (wpW_val (r_sub1 (.tmp 71) g1 rfl ((show slotv a (some 71) = .int .i64 (g : Int) from by have h := (hpre ⟨4, .data⟩ (by simp) rfl).2; simpa using h).trans (by rw [HG1.out])) HGM.out) ⟨_,rfl,hkp 5 72 _ (by decide) (by decide) (by decide) (by decide) (by decide) (by decide) (by decide) (by decide) (by decide),trivial,(fun h => by simp at h), .inr (.inr (.inr (.inr (rfl))))⟩)
                 · obtain rfl := Option.some.inj ho
                   exact wpOpIn_of rfl rfl (wpW_val ((run_sl_hi under35w size35w (.tmp 70) (.tmp 72) Ab s.back.length cb g1 rfl (show slotv a (some 70) = .slice Ab s.back.length cb from by have h := (hpre ⟨3, .data⟩ (by simp) rfl).2; simpa using h) (show slotv a (some 72) = .int .i64 (g1 : Int) from by have h := (hpre ⟨5, .data⟩ (by simp) rfl).2; simpa using h) HCBG.out.1).trans (by rw [HCH1.out]; rfl)) ⟨_,rfl,hkp 6 73 _ (by decide) (by decide) (by decide) (by decide) (by decide) (by decide) (by decide) (by decide) (by decide),trivial,(fun h => by simp at h), .inr (.inr (.inr (.inr (rfl))))⟩)
                 · obtain rfl := Option.some.inj ho
                   have n11 := not_yet hcl 11 rfl ⟨7, .data⟩ (by simp) rfl hls
                   have n14 := not_yet hcl 14 rfl ⟨11, .data⟩ (by simp) rfl n11
                   have h2 := (hpre ⟨2, .data⟩ (by simp) rfl).1
                   obtain ⟨b2,e0,hb2,hB2⟩ := hS3 h2 hls
                   obtain ⟨A',c',w7,hrun,ho7,hg7, -⟩ := run_append_ints 35 35 Tryz.underlying35 w6 wr.heap.size _ (.slice Ch g1 cb) [] (s.back.take g1) (own_empty35 hb2 hB2) (HCH2.out.below hS1) (by simp) (by rw [HTL.out]; have := HGM.out; omega) hz6
                   rw [List.nil_append,HTL.out] at ho7 hrun
                   have hgb : ∀ r,(Value.slice (some ⟨b2,0,none⟩) 0 0).ownBlock = some r -> wr.heap.size <= r := fun r hr => by cases hr; exact hb2
                   refine wpOpIn_of rfl rfl (wpW_val (r_app (.tmp 69) (.tmp 73) 35 rfl e0 (show slotv a (some 73) = .slice Ch g1 cb from by have h := (hpre ⟨6, .data⟩ (by simp) rfl).2; simpa using h) hrun) ⟨_,rfl,⟨?_, ?_, ?_, ?_, ?_, ?_⟩,trivial,(fun h => by simp at h), .inr (.inl rfl)⟩)
                   · refine ⟨⟨hg7.os.trans hS1.os,hg7.tape.trans hS1.tape,hg7.output.trans hS1.output,Nat.le_trans hS1.size hg7.size,fun q hq => (hg7.block q (Nat.lt_of_lt_of_le hq hS1.size) fun e => by have := hgb q e.symm; have := HBR.out.size; omega).trans (hS1.block q hq)⟩,⟨hg7.os.trans hS1x.os,hg7.tape.trans hS1x.tape,hg7.output.trans hS1x.output,Nat.le_trans hS1x.size hg7.size,fun q hq hx => (hg7.block q (Nat.lt_of_lt_of_le hq hz6) fun e => by have := hgb q e.symm; omega).trans (hS1x.block q hq hx)⟩⟩
                   · intro h; exact (hg7.block rb hrl6 fun e => by have := hgb rb e.symm; have := HQL.out.1; omega).trans (hS2 (by simpa using h))
                   · intro _ h'; simp at h'
                   · intro _ _; exact ⟨A',c',slotv_same (by rw [hasz]; decide),ho7⟩
                   · intro h; simp [n11] at h
                   · intro h; exact (hg7.block rb hrl6 fun e => by have := hgb rb e.symm; have := HQL.out.1; omega).trans (hS6 (by simpa using h))
                 · obtain rfl := Option.some.inj ho
                   exact wpOpIn_of rfl rfl (wpW_val (r_move (.tmp 2) rfl (hP.out 2 (dm_out (by kernel_rfl)))) ⟨_,rfl,hkp 8 75 _ (by decide) (by decide) (by decide) (by decide) (by decide) (by decide) (by decide) (by decide) (by decide),trivial,(fun h => by simp at h), .inr (.inr (.inr (.inr (rfl))))⟩)
                 · obtain rfl := Option.some.inj ho
                   exact wpOpIn_of rfl rfl (wpW_val (r_move (.tmp 12) rfl (hP.out 12 (dm_out (by kernel_rfl)))) ⟨_,rfl,hkp 9 76 _ (by decide) (by decide) (by decide) (by decide) (by decide) (by decide) (by decide) (by decide) (by decide),trivial,(fun h => by simp at h), .inr (.inr (.inr (.inr (rfl))))⟩)
                 · obtain rfl := Option.some.inj ho
                   exact wpOpIn_of rfl rfl (wpW_val ((r_slice_lo (.tmp 75) (.tmp 76) Ab s.back.length cb g rfl (show slotv a (some 75) = .slice Ab s.back.length cb from by have h := (hpre ⟨8, .data⟩ (by simp) rfl).2; simpa using h) (show slotv a (some 76) = .int .i64 (g : Int) from by have h := (hpre ⟨9, .data⟩ (by simp) rfl).2; simpa using h) HCBG.out.2).trans (by rw [HCL1.out]; rfl)) ⟨_,rfl,hkp 10 77 _ (by decide) (by decide) (by decide) (by decide) (by decide) (by decide) (by decide) (by decide) (by decide),trivial,(fun h => by simp at h), .inr (.inr (.inr (.inr (rfl))))⟩)
                 · obtain rfl := Option.some.inj ho
                   have n14 := not_yet hcl 14 rfl ⟨11, .data⟩ (by simp) rfl hls
                   have h7 := (hpre ⟨7, .data⟩ (by simp) rfl).1
                   obtain ⟨A1,c1,e0,ho1⟩ := hS4 h7 hls
                   obtain ⟨A',c',w7,hrun,ho7,hg7, -⟩ := run_append_ints 35 35 Tryz.underlying35 w6 wr.heap.size _ (.slice Cl nl cl) (s.back.take g1) (s.back.drop g) ho1 (HCL2.out.below hS1) (by rw [HTL.out]; have := HGM.out; omega) (by rw [List.length_drop]; have := HBLN.out; omega) hz6
                   rw [HER.out, <- HNB1.out] at ho7 hrun
                   have hgb : ∀ r,(Value.slice A1 g1 c1).ownBlock = some r -> wr.heap.size <= r := fun r hr => (owns_block ho1 r hr).1
                   refine wpOpIn_of rfl rfl (wpW_val (r_app (.tmp 74) (.tmp 77) 35 rfl e0 (show slotv a (some 77) = .slice Cl nl cl from by have h := (hpre ⟨10, .data⟩ (by simp) rfl).2; simpa using h) hrun) ⟨_,rfl,⟨?_, ?_, ?_, ?_, ?_, ?_⟩,trivial,(fun h => by simp at h), .inr (.inr (.inl rfl))⟩)
                   · refine ⟨⟨hg7.os.trans hS1.os,hg7.tape.trans hS1.tape,hg7.output.trans hS1.output,Nat.le_trans hS1.size hg7.size,fun q hq => (hg7.block q (Nat.lt_of_lt_of_le hq hS1.size) fun e => by have := hgb q e.symm; have := HBR.out.size; omega).trans (hS1.block q hq)⟩,⟨hg7.os.trans hS1x.os,hg7.tape.trans hS1x.tape,hg7.output.trans hS1x.output,Nat.le_trans hS1x.size hg7.size,fun q hq hx => (hg7.block q (Nat.lt_of_lt_of_le hq hz6) fun e => by have := hgb q e.symm; omega).trans (hS1x.block q hq hx)⟩⟩
                   · intro h; exact (hg7.block rb hrl6 fun e => by have := hgb rb e.symm; have := HQL.out.1; omega).trans (hS2 (by simpa using h))
                   · intro _ h'; simp [h7] at h'
                   · intro _ h'; simp at h'
                   · intro _; exact ⟨A',c',slotv_same (by rw [hasz]; decide),ho7,fun h => by simp [n14] at h⟩
                   · intro h; exact (hg7.block rb hrl6 fun e => by have := hgb rb e.symm; have := HQL.out.1; omega).trans (hS6 (by simpa using h))
                 · obtain rfl := Option.some.inj ho
                   refine wpOpIn_of rfl rfl (wpW_skip (r_store40 (.tmp 6) (.tmp 67) rfl rb zero40 #[.int .i64 ((s.n : Int) - 1), .slice A5 l.length c5] (hP.out 6 (dm_out (by kernel_rfl))) (show slotv a (some 67) = .agg #[.int .i64 ((s.n : Int) - 1), .slice A5 l.length c5] from by have h := (hpre ⟨0, .data⟩ (by simp) rfl).2; simpa using h) (hS2 hls) rfl rfl (by kernel_rfl)) ⟨undef,rfl,⟨?_, ?_, ?_, ?_, ?_, ?_⟩,trivial,(fun _ => rfl), .inr (.inr (.inr (.inr (rfl))))⟩)
                   · exact ⟨below_setRow hS1 HRB.out.1 _,⟨hS1x.os,hS1x.tape,hS1x.output,by rw [setRow_size]; exact hz6,fun q hq hx => (setRow_ne hx).trans (hS1x.block q hq hx)⟩⟩
                   · intro h; simp at h
                   · intro h h'; obtain ⟨b2,e1,hb,hB⟩ := hS3 (by simpa using h) (by simpa using h')
                     exact ⟨b2,e1,hb,(setRow_ne fun e => by have := HQL.out.1; omega).trans hB⟩
                   · intro h h'; obtain ⟨A1,c1,e1,hw⟩ := hS4 (by simpa using h) (by simpa using h')
                     exact ⟨A1,c1,e1,owns_keep hw fun r hr => setRow_ne fun e => by have := (owns_block hw r hr).1; have := HQL.out.1; omega⟩
                   · intro h; obtain ⟨A1,c1,e1,hw,h8⟩ := hS5 (by simpa using h)
                     exact ⟨A1,c1,e1,owns_keep hw fun r hr => setRow_ne fun e => by have := (owns_block hw r hr).1; have := HQL.out.1; omega,fun h => h8 (by simpa using h)⟩
                   · intro _; exact setRow_heap _ _ _ _ _ _ (hS2 hls)
                 · obtain rfl := Option.some.inj ho
                   exact wpOpIn_of rfl rfl (wpW_val (r_assign (.tmp 68) rfl (show slotv a (some 68) = .slice A7 s.into.length c7 from by have h := (hpre ⟨1, .data⟩ (by simp) rfl).2; simpa using h)) ⟨_,rfl,hkp 13 7 _ (by decide) (by decide) (by decide) (by decide) (by decide) (by decide) (by decide) (by decide) (by decide),trivial,(fun h => by simp at h), .inr (.inr (.inr (.inr (rfl))))⟩)
                 · obtain rfl := Option.some.inj ho
                   have h11 := (hpre ⟨11, .data⟩ (by simp) rfl).1
                   obtain ⟨A1,c1,e0,ho1, -⟩ := hS5 h11
                   refine wpOpIn_of rfl rfl (wpW_val (r_assign (.tmp 78) rfl e0) ⟨_,rfl,⟨?_, ?_, ?_, ?_, ?_, ?_⟩,trivial,(fun h => by simp at h), .inr (.inr (.inr (.inl rfl)))⟩)
                   · exact ⟨hS1,hS1x⟩
                   · intro h; exact hS2 (by simpa using h)
                   · intro h h'; obtain ⟨b2,e1,hb,hB⟩ := hS3 (by simpa using h) (by simpa using h')
                     exact ⟨b2,(slotv_put_ne (a := a) (s := 8) (t := 69) (by decide)).trans e1,hb,hB⟩
                   · intro h h'; simp [h11] at h'
                   · intro _; exact ⟨A1,c1,(slotv_put_ne (a := a) (s := 8) (t := 78) (by decide)).trans e0,ho1,fun _ => slotv_same (by rw [hasz]; decide)⟩
                   · intro h; exact hS6 (by simpa using h)
                 · obtain rfl := Option.some.inj ho
                   exact wpOpIn_of rfl rfl (wpW_val (r_assign (.const (.bool true)) rfl rfl) ⟨_,rfl,hkp 15 9 _ (by decide) (by decide) (by decide) (by decide) (by decide) (by decide) (by decide) (by decide) (by decide),trivial,(fun h => by simp at h), .inr (.inr (.inr (.inr (rfl))))⟩)
                 · obtain rfl := Option.some.inj ho
                   exact wpOpIn_of rfl rfl (wpW_val (r_assign (.const (.int .i64 0)) rfl rfl) ⟨_,rfl,hkp 16 10 _ (by decide) (by decide) (by decide) (by decide) (by decide) (by decide) (by decide) (by decide) (by decide),trivial,(fun h => by simp at h), .inr (.inr (.inr (.inr (rfl))))⟩)
               · intro ls a w6 hall hS hP hsl
                 obtain ⟨⟨hS1,hS1x⟩, -, -, -,hS5,hS6⟩ := hS
                 obtain ⟨A1,c1, -,ho1,h8⟩ := hS5 (hall 11 (by decide))
                 have hrx := hS6 (hall 12 (by decide))
                 have h8' := h8 (hall 14 (by decide))
                 have h7 : slotv a (some 7) = .slice A7 s.into.length c7 := by have h := hsl 13 (by decide); simpa using h
                 have h9 : slotv a (some 9) = .bool true := by have h := hsl 15 (by decide); simpa using h
                 have h10 : slotv a (some 10) = .int .i64 0 := by have h := hsl 16 (by decide); simpa using h
                 obtain ⟨vs2,hvs,hfr⟩ := hP.frame 82 rfl
                 have e7 := (hvs 7).trans h7
                 have e8 := (hvs 8).trans h8'
                 have e9 := (hvs 9).trans h9
                 have e10 := (hvs 10).trans h10
                 have HB6 := Lib.hid hS1
                 have HBX6 := Lib.hid hS1x
                 have HO1 := Lib.hid ho1
                 have HRX6 := Lib.hid hrx
                 clear hsl hP hall hvs hS1 hS1x hS5 hS6 ho1 h8 hrx h8' h7 h9 h10
                 subst hfr
                 have hno : ∀ n : Nat,((none : Option Nat) == some n) = false := fun _ => rfl
                 simp only [hno,List.range,List.range.loop,List.map_cons,List.map_nil,List.any_cons,List.any_nil,Nat.reduceAdd,Nat.reduceSub,Nat.reduceBEq,Nat.reduceLT,Option.some_beq_some,Bool.or_false,if_true,if_false,List.getD_cons_zero,List.getD_cons_succ,Bool.false_or,Bool.or_true,Bool.false_eq_true,Nat.reduceEqDiff]
                 rw [e7,e8,e9,e10]
                 clear e7 e8 e9 e10
                 go_wp2_with fail
                 try simp only [Exit.inBlock,Exit.then]
                 refine bodyPost_ret (results_46 (p := 6) (q := 7) (r := 8) (t := 9) (z := 10) rfl _ _ rb #[.int .i64 ((s.n : Int) - 1), .slice A5 l.length c5] (.slice A7 s.into.length c7) (.slice A1 nb1 c1) (.bool true) (.int .i64 0) rfl rfl rfl rfl rfl HRX6.out rfl) rfl ⟨?_,HB6.out⟩
                 rw [HSM2.out]
                 have h1 := HRB.out
                 have h2 := HWR.out
                 have h3 := HWS.out
                 refine ⟨A5,c5,A7,c7,A1,c1, ?_, ?_, ?_, ?_⟩
                 · show Ending.returned _ = .returned (.tuple #[.agg #[.int .i64 ((s.n - 1 : Nat) : Int), .slice A5 l.length c5], .slice A7 (s.into.map (sbW im)).length c7, .slice A1 (s.back.eraseIdx g1).length c1, .bool true, .int .i64 0])
                   rw [List.length_map, <- HNB1.out,show ((s.n - 1 : Nat) : Int) = (s.n : Int) - 1 by have := HN2.out; omega]
                 · exact (HT53.out.keep fun q hq1 hq2 => (HBX6.out.block q (Nat.lt_of_lt_of_le hq2 HK.out.1.below.size) (by omega)).trans (HK.out.1.below.block q hq2)).mono (by omega) (Nat.le_trans HK.out.1.below.size HBX6.out.size)
                 · show TabI _ _ w6 (.slice A7 (s.into.map (sbW im)).length c7) _
                   rw [List.length_map]
                   exact ((TabI.of_out HK.out.1).keep fun q hq1 hq2 => HBX6.out.block q hq2 (by have := HB3.out.size; omega)).mono (by have := HB3.out.size; omega) HBX6.out.size
                 · show OwnI _ w6 (.slice A1 (s.back.eraseIdx g1).length c1) _
                   rw [<- HNB1.out]
                   exact owns_base HO1.out HBR.out.size
       · obtain rfl : g = 0 := by omega
         go_wp2_with fail
         go_roundw
         case rel =>
           refine ⟨i + 1,by omega,by go_num,Lib.hid ⟨fun a ha g h1 h2 => ?_,HG.out.2⟩⟩
           rcases Nat.lt_succ_iff_lt_or_eq.1 ha with h | rfl
           · exact HD.out.1 a h g h1 h2
           · exact HG.out.1 g (by omega) h2
         case measure => simp [intOf]; omega
   · obtain rfl : s.rels.length = i := by omega
     have HNO : Hid (s.elim = none) := Lib.hid (by unfold Sp.elim; rw [firstE_none HD.out.1])
     have HX2 := Lib.hid x2
     have HX3 := Lib.hid x3
     have HBW := Lib.hid (HB0.out.trans (HD.out.2.mono HB0.out.size))
     clear x2 x3
     go_wp2_with (first
       | ((with_reducible refine wpList_sel 79 ?_); refine wpList_val rfl (r_loadAt 24 (.tmp 3) _ _ rfl rfl (load40 HX2.out)) ?_)
       | ((with_reducible refine wpList_selStore 24 6 79 ?_); refine wpList_skip rfl (r_store40 (.tmp 6) (.tmp 79) rfl (w.heap.size + 1) zero40 #[.int .i64 (s.n : Int), .slice Ar s.rels.length cr] rfl rfl HX3.out rfl rfl (by kernel_rfl)) ?_))
     try simp only [Exit.inBlock,Exit.then]
     exact bodyPost_ret (results_46 (p := 6) (q := 7) (r := 8) (t := 9) (z := 10) rfl _ _ (w.heap.size + 1) #[.int .i64 (s.n : Int), .slice Ar s.rels.length cr] (.slice Ai s.into.length ci) (.slice Ab s.back.length cb) (.bool false) (.int .i64 0) rfl rfl rfl rfl rfl (setRow_heap _ _ _ _ _ _ HX3.out) rfl) rfl ⟨by rw [HNO.out],below_setRow HBW.out (Nat.le_succ _) _⟩
end Go.Proofs
