/- The iterator of tietze.turns; tietze.Eliminate, whole; tietze.turns; The state of a simplification in memory; a shortening step by pairs and turns; marks of ranges over functions; One operation at a time on the state's box; the slots of the region that writes it. -/
import Derived.Test.YtmmbmhjdnlmedaaGreatSiCS14
import Derived.Test.YtmmbmhjdnlmedaaGreatSiCS13
import Derived.Test.YtmmbmhjdnlmedaaGreatSiCS10
namespace Go.Proofs
open Go.RowKit Go.Shelf Go.Proofs.Ct Go.Proofs.Tz Go.Maps
attribute [local simp,local go_sem] wideF wideD
attribute [local go_sem] Oper.semAt_some
def KeepC (A B : World) : Prop := A.heap.size <= B.heap.size /\ ∀ (k : Nat) (o : Obj),A.heap[k]? = some o -> o.isCells = true -> B.heap[k]? = some o
theorem KeepC.refl (A : World) : KeepC A A := ⟨Nat.le_refl _,fun _ _ h _ => h⟩
theorem KeepC.trans {A B C : World} (h : KeepC A B) (k : KeepC B C) : KeepC A C := ⟨Nat.le_trans h.1 k.1,fun i o ho hc => k.2 i o (h.2 i o ho hc) hc⟩
theorem KeepC.of_below {A B : World} (h : Below A.heap.size A B) : KeepC A B := ⟨h.size,fun k _ ho _ => (h.block k (Array.getElem?_eq_some_iff.1 ho).1).trans ho⟩
theorem KeepC.putObj {A : World} {l : Nat} {o o' : Obj} (ho : A.heap[l]? = some o) (hn : o.isCells = false) : KeepC A (A.putObj l o') :=
 ⟨by simp,fun k p hk hc => by
   have hne : k ≠ l := fun e => by subst e; rw [ho] at hk; cases hk; rw [hn] at hc; cases hc
   rw [World.putObj_heap_other hne]
   exact hk⟩
theorem KeepC.cell {A B : World} (h : KeepC A B) {p : Addr} {v : Value} (hc : A.cell? p = some v) : B.cell? p = some v := by
 have e : B.heap[p.block]? = A.heap[p.block]? := by
   cases ho : A.heap[p.block]? with
   | none => unfold World.cell? at hc; rw [ho] at hc; cases hc
   | some o =>
     refine h.2 _ o ho ?_
     unfold World.cell? at hc
     rw [ho] at hc
     cases o <;> simp_all [Obj.isCells]
 rw [World.cell?_of_block e]
 exact hc
theorem Sl.keepC {A B : World} {v : Value} {vs : List Value} (h : Sl A v vs) (hk : KeepC A B) : Sl B v vs := by
 obtain ⟨A0,n,cap,h1,h2,h3,h4,h5⟩ := h
 refine ⟨A0,n,cap,h1,h2,h3,h4,fun hp => ?_⟩
 obtain ⟨b,off,e,hr⟩ := h5 hp
 exact ⟨b,off,e,fun j v hv => hk.cell (hr j v hv)⟩
theorem IntsAt.keepC {A B : World} {u : Value} {x : List Int} (h : IntsAt A u x) (hk : KeepC A B) : IntsAt B u x := ⟨h.1.keepC hk,h.2⟩
theorem tab_keepC {A B : World} {u : Value} {x : List (List Int)} (h : Tab A u x) (hk : KeepC A B) : Tab B u x := by
 obtain ⟨vs,h1,h2,h3⟩ := h
 exact ⟨vs,h1.keepC hk,h2,fun i hi => let ⟨u,h4,h5⟩ := h3 i hi; ⟨u,h4,IntsAt.keepC h5 hk⟩⟩
def ElT (r : List Int) (k : Nat) (x : Value) (W : World) : Prop := ∃ A n c B m d,x = .agg #[.slice A n c, .slice B m d] /\ IntsAt W (.slice A n c) (((turnsW r).getD k []).take (r.length / 2 + 1)) /\ IntsAt W (.slice B m d) (((turnsW r).getD k []).drop (r.length / 2 + 1))
theorem turns_at {r : List Int} (hi : (invW r).length = r.length) {j k : Nat} (hj : j < 2) (hk : k < r.length) : (turnsW r).getD (j * r.length + k) [] = rot (([r,invW r] : List (List Int)).getD j []) k := by
 unfold turnsW
 have : j = 0 \/ j = 1 := by omega
 rcases this with rfl | rfl
 · rw [Nat.zero_mul,Nat.zero_add,List.getD_eq_getElem?_getD,List.getElem?_append_left (by simpa using hk)]
   simp [hk]
 · rw [Nat.one_mul,List.getD_eq_getElem?_getD,List.getElem?_append_right (by simp)]
   simp [hi,hk]
theorem turns_len {r : List Int} (hi : (invW r).length = r.length) : (turnsW r).length = 2 * r.length := by
 unfold turnsW
 simp [hi]
 omega
theorem build89 (A B : Option Addr) (n c m d : Nat) (w : World) : (Instr.build 110 #[(0, .slice A n c),(1, .slice B m d)]).run Tryz.prog w = .ok (.agg #[.slice A n c, .slice B m d]) w := by kernel_rfl
theorem r_build89 {o : Oper} {a : Act} {w : World} (x y : Operand) (A B : Option Addr) (n c m d : Nat) (ho : o.op = .build 110 #[(0,x),(1,y)]) (hx : a.eval x = .slice A n c) (hy : a.eval y = .slice B m d) : (execOp a.eval o).run Tryz.prog w = .ok (.value (.agg #[.slice A n c, .slice B m d])) w := by
 have hb := build89 A B n c m d w
 unfold execOp
 simp only [ho,List.map_toArray,List.map_cons,List.map_nil,hx,hy,Sem.run_bind,hb,Result.andThen_ok]
 rfl
set_option maxRecDepth 100000 in
set_option maxHeartbeats 2000000 in
theorem turn70 (n l bw : Nat) (J Jx : Nat -> World -> Prop) (W : World) (A : Option Addr) (c : Nat) (r : List Int)
   (hbox : W.heap[bw]? = some (.cells #[.slice A r.length c] 36 (0,0))) (hv : IntsAt W (.slice A r.length c) r) (hl : r.length <= 4000) (hm : ∀ z ∈ r,Mild z) (hinv : (invW r).length = r.length)
   (hJa : ∀ k A B,J k A -> Below A.heap.size A B -> J k B)
   (hY : ∀ k x W1,J k W1 -> k < 2 * r.length -> ElT r k x W1 -> YieldAt Fence.wide (n - 1) Tryz.prog l #[x] W1 fun e W' => (e = .returned (.bool true) /\ J (k + 1) W' /\ KeepC W1 W') \/ (e = .returned (.bool false) /\ Jx (k + 1) W'))
   (h0 : J 0 W) :
   CallsIn Fence.wide n Tryz.prog 117 #[.func (.yield l) #[] #[], .pointer (some ⟨bw,0,none⟩)] W fun e W' => (∃ v,e = .returned v) /\ (J (2 * r.length) W' \/ ∃ k,Jx k W') := by
 have HJA := Lib.hid hJa
 have HY := Lib.hid hY
 have H0 := Lib.hid h0
 have HV := Lib.hid hv
 have HBX := Lib.hid hbox
 have HM := Lib.hid hm
 have HMI : Hid (∀ z ∈ invW r,Mild z) := Lib.hid fun z hz => mild_inv' hm z (Ct.red_mem hz)
 have HINV := Lib.hid hinv
 have HL := Lib.hid hl
 have hcb : W.cell? ⟨bw,0,none⟩ = some (.slice A r.length c) := by
   rw [cell_of_row _ _ _ _ _ _ hbox]; rfl
 have hl1 : (r.length : Int) <= 4000 := by omega
 have hl0 : (0 : Int) <= (r.length : Int) := Int.natCast_nonneg _
 obtain ⟨m,hmd⟩ : ∃ m,m = r.length / 2 := ⟨_,rfl⟩
 obtain ⟨h,hhd⟩ : ∃ h,h = m + 1 := ⟨_,rfl⟩
 have htd : Int.tdiv (r.length : Int) 2 = (m : Int) := by rw [hmd,Int.tdiv_eq_ediv_of_nonneg hl0]; omega
 have htd2 : (r.length : Int) / 2 = (m : Int) := by omega
 have hmh : (m : Int) + 1 = (h : Int) := by omega
 have hm0 : (0 : Int) <= (m : Int) := Int.natCast_nonneg _
 have hm1 : (m : Int) <= 4000 := by omega
 have HH : Hid (r.length / 2 + 1 = h) := Lib.hid (by omega)
 have HCELL : Hid (∀ W',KeepC W W' -> W'.cell? ⟨bw,0,none⟩ = some (.slice A r.length c)) := Lib.hid fun W' hk => hk.cell hcb
 have H22 : Hid (∀ W',KeepC W W' -> Calls Tryz.prog 29 #[.slice A r.length c] W' fun e w'' => ∃ v,e = .returned v /\ ((∃ A c,v = .slice A (invW r).length c /\ IntsAt w'' v (invW r)) /\ Below W'.heap.size W' w'')) := Lib.hid fun W' hk => (invert72_any W' _ r (IntsAt.keepC hv hk) hm (by omega)).mono fun e w'' ⟨A,c,e1,h4,h5⟩ => ⟨_,e1,⟨A,c,rfl,OwnI.ints h4 (Mild.fits HMI.out)⟩,h5⟩
 clear hJa hY h0 hv hbox hl hm hinv hmd hhd
 gi_enter Tryz.func117,Tryz.ntmps117
 gi_wp2_with fail
 refine wpIn_region_all (by kernel_rfl) 6 rfl (fun i => some (12 + i)) (lex_of (by kernel_rfl)) (fun _ w' => Below W.heap.size W w')
   (fun i v w' => (([.eq (.slice A r.length c), .eq (.slice A r.length c), .ints (invW r), .tab [r,invW r], .eq (.int .i64 ((2 : Nat) : Int)), .eq (.int .i64 ((0 : Nat) : Int))] : List SlT).getD i (.eq undef)).holds v w')
   (fun _ w1 w2 => Below w1.heap.size w1 w2) (dm_inj (by kernel_rfl)) (fun i j v w1 w2 _ _ _ h => SlT.keep h) (dm_lt (n := 46) (by kernel_rfl)) (Below.refl _ _).drew ?_ ?_
 · intro ls q o a w3 hq ho hS hls hcl hP hpre
   have hcases : q = 0 \/ q = 1 \/ q = 2 \/ q = 3 \/ q = 4 \/ q = 5 := by
     have : q < 6 := hq
     omega
   rcases hcases with rfl | rfl | rfl | rfl | rfl | rfl
   · obtain rfl := Option.some.inj ho
     exact wpOpIn_of rfl rfl (wpF_val (r_ld24 (.tmp 1) ⟨bw,0,none⟩ rfl (hP.out 1 (dm_out (by kernel_rfl))) (HCELL.out _ (KeepC.of_below hS))) ⟨_,rfl,hS,Below.refl _ _,(fun h => by simp at h),rfl⟩)
   · obtain rfl := Option.some.inj ho
     exact wpOpIn_of rfl rfl (wpF_val (r_ld24 (.tmp 1) ⟨bw,0,none⟩ rfl (hP.out 1 (dm_out (by kernel_rfl))) (HCELL.out _ (KeepC.of_below hS))) ⟨_,rfl,hS,Below.refl _ _,(fun h => by simp at h),rfl⟩)
   · obtain rfl := Option.some.inj ho
     exact wpOpIn_of rfl rfl (wpF_call (r_call1 (.tmp 13) _ _ rfl (hpre ⟨1, .data⟩ (by simp) rfl).2 call22) (H22.out w3 (KeepC.of_below hS)) fun v w4 hR => ⟨v,rfl,hS.trans (hR.2.mono hS.size),hR.2,(fun h => by simp at h),hR.1⟩)
   · obtain rfl := Option.some.inj ho
     have hal : ∀ o : Obj,Below w3.heap.size w3 (w3.alloc o) := fun o => (Below.refl _ _).alloc (Nat.le_refl _) _
     obtain ⟨A4,c4,e4,g4⟩ := (hpre ⟨2, .data⟩ (by simp) rfl).2
     rw [e4] at g4
     exact wpOpIn_of rfl rfl (wpF_val (r_bs25 (.tmp 12) (.tmp 14) A A4 _ _ _ _ rfl (hpre ⟨0, .data⟩ (by simp) rfl).2 e4) ⟨_,rfl,hS.trans ((hal _).mono hS.size),hal _,(fun h => by simp at h),tab_two w3 _ _ _ _ (HV.out.below hS) g4 (e := 36)⟩)
   · obtain rfl := Option.some.inj ho
     have ht3 : Tab w3 _ [r,invW r] := (hpre ⟨3, .data⟩ (by simp) rfl).2
     obtain ⟨A4,c4,e4, -⟩ := ht3.open_
     exact wpOpIn_of rfl rfl (wpF_val (r_len (.tmp 15) 22 A4 2 c4 Tryz.underlying22 rfl e4) ⟨_,rfl,hS,Below.refl _ _,(fun h => by simp at h),rfl⟩)
   · obtain rfl := Option.some.inj ho
     exact wpOpIn_of rfl rfl (wpF_val (r_move (.const (.int .i64 0)) rfl rfl) ⟨_,rfl,hS,Below.refl _ _,(fun h => by simp at h),rfl⟩)
 · intro ls a w3 hall hS hP hsl
   obtain ⟨vs,hvs,hfr⟩ := hP.frame 46 rfl
   have s15 : Tab w3 (vs 15) [r,invW r] := by rw [hvs 15]; exact hsl 3 (by decide)
   have e16 : vs 16 = .int .i64 ((2 : Nat) : Int) := (hvs 16).trans (hsl 4 (by decide))
   have e17 : vs 17 = .int .i64 ((0 : Nat) : Int) := (hvs 17).trans (hsl 5 (by decide))
   obtain ⟨A4,c4,e15, -⟩ := s15.open_
   rw [e15] at s15
   have HT := Lib.hid s15
   have HJ0 := Lib.hid (HJA.out 0 _ _ H0.out hS)
   clear hsl hP hall hvs s15 hS hcb
   subst hfr
   simp only [List.range,List.range.loop,List.map_cons,List.map_nil,List.any_cons,List.any_nil,Nat.reduceAdd,Nat.reduceBEq,Option.some_beq_some,Bool.or_false,if_true,if_false,List.getD_cons_zero,List.getD_cons_succ,Bool.or_true,Bool.false_eq_true]
   rw [e15,e16,e17]
   clear e15 e16 e17
   simp only [List.length_cons,List.length_nil,Nat.zero_add,Nat.reduceAdd]
   gi_wp2_with fail
   gi_loopw [17] (fun i wr => ∃ j : Nat,i = .int .i64 j /\ j <= 2 /\ Hid (J (j * r.length) wr /\ KeepC w3 wr)) (fun i _ => 2 - (intOf i).toNat)
   case atStart => exact ⟨0,rfl,by omega,Lib.hid ⟨by rw [Nat.zero_mul]; exact HJ0.out,KeepC.refl _⟩⟩
   case round =>
     obtain ⟨j,rfl,hj,HS⟩ := hrel
     obtain ⟨wo,rfl⟩ : ∃ wo,wo = wr := ⟨_,rfl⟩
     have hj0 : (0 : Int) <= (j : Int) := Int.natCast_nonneg _
     by_cases hlt : j < 2
     · have hlt' : (j : Int) < 2 := by omega
       obtain ⟨A',c',e', -, -,hc⟩ := (tab_keepC HT.out HS.out.2).open_
       injection e' with e1 _ e3
       subst e1 e3
       obtain ⟨b,o,rfl,hcc⟩ := hc (by simp)
       obtain ⟨u,hu,hI⟩ := hcc j (by simpa using hlt)
       have hyl : (([r,invW r] : List (List Int)).getD j []).length = r.length := by
         have : j = 0 \/ j = 1 := by omega
         rcases this with rfl | rfl
         · rfl
         · exact HINV.out
       have hym : ∀ z ∈ ([r,invW r] : List (List Int)).getD j [],Mild z := by
         have : j = 0 \/ j = 1 := by omega
         rcases this with rfl | rfl
         · exact HM.out
         · exact HMI.out
       have HAT : Hid (∀ k,k < r.length -> (turnsW r).getD (j * r.length + k) [] = rot (([r,invW r] : List (List Int)).getD j []) k) := Lib.hid fun k hk => turns_at HINV.out hlt hk
       generalize ([r,invW r] : List (List Int)).getD j [] = y at *
       obtain ⟨Ay,cy,rfl,hcapy, -⟩ := hI.open_
       have HI := Lib.hid hI
       have HYL := Lib.hid hyl
       have HYM := Lib.hid hym
       have hbnd : (j : Int) * 1 <= 2 := by omega
       rw [hyl] at hu hcapy HI
       have hjs : (j : Int) < ((2 : Nat) : Int) := by omega
       clear hc hcc hI hym hyl
       gi_wp2_with fail
       gi_loopw [23] (fun i wi => ∃ k : Nat,i = .int .i64 k /\ k <= r.length /\ Hid (J (j * r.length + k) wi /\ KeepC wo wi)) (fun i _ => r.length - (intOf i).toNat)
       case atStart => exact ⟨0,rfl,by omega,Lib.hid ⟨HS.out.1,KeepC.refl _⟩⟩
       case round =>
         obtain ⟨k,rfl,hk,HK⟩ := hrel
         have hk0 : (0 : Int) <= (k : Int) := Int.natCast_nonneg _
         by_cases hlk : k < r.length
         · have hlk' : (k : Int) < (r.length : Int) := by omega
           have hI2 : IntsAt wr (.slice Ay y.length cy) y := by rw [HYL.out]; exact IntsAt.keepC HI.out HK.out.2
           obtain ⟨A1,hs1,hi1⟩ := ints_cut hI2 (k := k) (h := y.length) (by rw [HYL.out]; omega) (Nat.le_refl _)
           obtain ⟨A2,hs2,hi2⟩ := ints_cut hI2 (k := 0) (h := k) (by omega) (by rw [HYL.out]; omega)
           rw [List.take_length] at hi1
           rw [HYL.out] at hs1 hi1
           rw [List.drop_zero] at hi2
           simp only [Nat.sub_zero] at hs2 hi2
           have HS1 := Lib.hid hs1
           have HS2 := Lib.hid hs2
           have HI1 := Lib.hid hi1
           have HI2 := Lib.hid hi2
           have HRL : Hid ((rot y k).length = r.length) := Lib.hid (by rw [length_rot _ (by rw [HYL.out]; omega)]; exact HYL.out)
           have HF : Hid (Fits (rot y k)) := Lib.hid (Mild.fits (mild_rot HYM.out k))
           have H39 : Hid (∀ W' v,Tab W' v [y.drop k,y.take k] -> Calls Tryz.prog 67 #[v] W' fun e w'' => ∃ u,e = .returned u /\ ((∃ A c,u = .slice A (rot y k).length c /\ IntsAt w'' u (rot y k)) /\ Below W'.heap.size W' w'')) := Lib.hid fun W' v hv => by
             have hsum : sumTo [y.drop k,y.take k] 2 = r.length := by
               show 0 + (y.drop k).length + (y.take k).length = _
               rw [List.length_drop,List.length_take,HYL.out]; omega
             have h1 := concat100_any W' v _ hv (by show sumTo [y.drop k,y.take k] 2 <= _; have := HL.out; omega)
             refine h1.mono ?_
             rintro e w'' ⟨A,c,rfl,h3,h4⟩
             have hfl : flatTo [y.drop k,y.take k] [y.drop k,y.take k].length = rot y k := by
               show ([] ++ y.drop k) ++ y.take k = _
               rw [List.nil_append]; rfl
             rw [hfl] at h3 ⊢
             exact ⟨_,rfl,⟨A,c,rfl,OwnI.ints h3 HF.out⟩,h4⟩
           have hkc : k <= cy := by omega
           have HAK := Lib.hid (HAT.out k hlk)
           clear hI2 hs1 hs2 hi1 hi2
           gi_wp2_with fail
           refine wpIn_region_all (by kernel_rfl) 9 rfl (fun i => if i < 8 then some (26 + i) else some 7) (lex_of (by kernel_rfl)) (fun _ w' => Below wr.heap.size wr w')
             (fun i v w' => (([.eq (.slice Ay r.length cy), .eq (.int .i64 (k : Int)), .eq (.slice A1 (r.length - k) (cy - k)), .eq (.slice Ay r.length cy), .eq (.int .i64 (k : Int)), .eq (.slice A2 k cy), .tab [y.drop k,y.take k], .ints (rot y k), .ints (rot y k)] : List SlT).getD i (.eq undef)).holds v w')
             (fun _ w1 w2 => Below w1.heap.size w1 w2) (dm_inj (by kernel_rfl)) (fun i j v w1 w2 _ _ _ h => SlT.keep h) (dm_lt (n := 46) (by kernel_rfl)) (Below.refl _ _).drew ?_ ?_
           · intro ls q o a w4 hq ho hS hls hcl hP hpre
             have hcases : q = 0 \/ q = 1 \/ q = 2 \/ q = 3 \/ q = 4 \/ q = 5 \/ q = 6 \/ q = 7 \/ q = 8 := by
               have : q < 9 := hq
               omega
             rcases hcases with rfl | rfl | rfl | rfl | rfl | rfl | rfl | rfl | rfl
             · obtain rfl := Option.some.inj ho
               exact wpOpIn_of rfl rfl (wpF_val (r_move (.tmp 5) rfl (hP.out 5 (dm_out (by kernel_rfl)))) ⟨_,rfl,hS,Below.refl _ _,(fun h => by simp at h),rfl⟩)
             · obtain rfl := Option.some.inj ho
               exact wpOpIn_of rfl rfl (wpF_val (r_move (.tmp 6) rfl (hP.out 6 (dm_out (by kernel_rfl)))) ⟨_,rfl,hS,Below.refl _ _,(fun h => by simp at h),rfl⟩)
             · obtain rfl := Option.some.inj ho
               exact wpOpIn_of rfl rfl (wpF_val ((run_sl_lo under24w size24w (.tmp 26) (.tmp 27) Ay r.length cy k rfl (hpre ⟨0, .data⟩ (by simp) rfl).2 (hpre ⟨1, .data⟩ (by simp) rfl).2 (by omega)).trans (congrArg (fun v => Result.ok (Next.value v) _) HS1.out)) ⟨_,rfl,hS,Below.refl _ _,(fun h => by simp at h),rfl⟩)
             · obtain rfl := Option.some.inj ho
               exact wpOpIn_of rfl rfl (wpF_val (r_move (.tmp 5) rfl (hP.out 5 (dm_out (by kernel_rfl)))) ⟨_,rfl,hS,Below.refl _ _,(fun h => by simp at h),rfl⟩)
             · obtain rfl := Option.some.inj ho
               exact wpOpIn_of rfl rfl (wpF_val (r_move (.tmp 6) rfl (hP.out 6 (dm_out (by kernel_rfl)))) ⟨_,rfl,hS,Below.refl _ _,(fun h => by simp at h),rfl⟩)
             · obtain rfl := Option.some.inj ho
               exact wpOpIn_of rfl rfl (wpF_val ((run_sl_hi under24w size24w (.tmp 29) (.tmp 30) Ay r.length cy k rfl (hpre ⟨3, .data⟩ (by simp) rfl).2 (hpre ⟨4, .data⟩ (by simp) rfl).2 hkc).trans (congrArg (fun v => Result.ok (Next.value v) _) HS2.out)) ⟨_,rfl,hS,Below.refl _ _,(fun h => by simp at h),rfl⟩)
             · obtain rfl := Option.some.inj ho
               have hal : ∀ o : Obj,Below w4.heap.size w4 (w4.alloc o) := fun o => (Below.refl _ _).alloc (Nat.le_refl _) _
               exact wpOpIn_of rfl rfl (wpF_val (r_bs25 (.tmp 28) (.tmp 31) A1 A2 _ _ _ _ rfl (hpre ⟨2, .data⟩ (by simp) rfl).2 (hpre ⟨5, .data⟩ (by simp) rfl).2) ⟨_,rfl,hS.trans ((hal _).mono hS.size),hal _,(fun h => by simp at h),tab_two w4 _ _ _ _ (HI1.out.below hS) (HI2.out.below hS) (e := 36)⟩)
             · obtain rfl := Option.some.inj ho
               exact wpOpIn_of rfl rfl (wpF_call (r_call1 (.tmp 32) _ _ rfl rfl call39) (H39.out w4 _ (hpre ⟨6, .data⟩ (by simp) rfl).2) fun v w5 hR => ⟨v,rfl,hS.trans (hR.2.mono hS.size),hR.2,(fun h => by simp at h),hR.1⟩)
             · obtain rfl := Option.some.inj ho
               exact wpOpIn_of rfl rfl (wpF_val (r_assign (.tmp 33) rfl rfl) ⟨_,rfl,hS,Below.refl _ _,(fun h => by simp at h),(hpre ⟨7, .data⟩ (by simp) rfl).2⟩)
           · intro ls a w4 hall hS hP hsl
             obtain ⟨A5,c5,e5,g5⟩ := hsl 8 (by decide)
             rw [e5] at g5
             obtain ⟨vs7,hvs,hfr⟩ := hP.frame 46 rfl
             have e6 : vs7 7 = .slice A5 (rot y k).length c5 := (hvs 7).trans e5
             have hhl : h <= (rot y k).length := by have := HRL.out; have := HH.out; omega
             obtain ⟨A6,hs6,hi6⟩ := ints_cut g5 (k := 0) (h := h) (by omega) hhl
             obtain ⟨A7,hs7,hi7⟩ := ints_cut g5 (k := h) (h := (rot y k).length) hhl (Nat.le_refl _)
             have hcap5 : (rot y k).length <= c5 := by
               obtain ⟨A',c',e1,h5, -, -⟩ := g5.open_
               injection e1 with e1 e2 e3
               omega
             rw [List.take_length] at hi7
             rw [List.drop_zero] at hi6
             simp only [Nat.sub_zero] at hs6 hi6
             have hh5 : h <= c5 := by omega
             have HS6 := Lib.hid hs6
             have HS7 := Lib.hid hs7
             have HI6 := Lib.hid hi6
             have HI7 := Lib.hid hi7
             have HK4 : Hid (J (j * r.length + k) w4 /\ KeepC wo w4) := Lib.hid ⟨HJA.out _ _ _ HK.out.1 hS,HK.out.2.trans (KeepC.of_below hS)⟩
             clear hsl hP hall hvs g5 hS e5 hs6 hs7 hi6 hi7
             subst hfr
             simp only [List.range,List.range.loop,List.map_cons,List.map_nil,List.any_cons,List.any_nil,Nat.reduceAdd,Nat.reduceBEq,Nat.reduceLT,Option.some_beq_some,Bool.or_false,if_true,if_false,List.getD_cons_zero,List.getD_cons_succ,Bool.or_true,Bool.false_eq_true]
             rw [e6]
             clear e6
             gi_wp2_with fail
             refine wpIn_region_tail (by kernel_rfl) 34 8 (tailed_of (by kernel_rfl)) (fun w' => Below w4.heap.size w4 w')
               (fun q u _ => u = [Value.func (.yield l) #[] #[], .slice A5 (rot y k).length c5, .int .i64 (h : Int), .slice A6 h c5, .slice A5 (rot y k).length c5, .int .i64 (h : Int), .slice A7 ((rot y k).length - h) (c5 - h), .agg #[.slice A6 h c5, .slice A7 ((rot y k).length - h) (c5 - h)]].getD q undef)
               (fun _ _ => True) (fun _ _ _ _ _ h => h) (Nat.le_of_ble_eq_true rfl) (Below.refl _ _).drew ?_ ?_
             · intro q o a w5 hq ho hS hsame hpre
               have hcases : q = 0 \/ q = 1 \/ q = 2 \/ q = 3 \/ q = 4 \/ q = 5 \/ q = 6 \/ q = 7 := by omega
               rcases hcases with rfl | rfl | rfl | rfl | rfl | rfl | rfl | rfl
               · obtain rfl := Option.some.inj ho; exact ⟨rfl,rfl,(by exact wpF_val (r_move (.tmp 0) rfl (hsame.out 0 (.inl (by decide)))) ⟨_,rfl,hS,trivial,rfl⟩)⟩
               · obtain rfl := Option.some.inj ho; exact ⟨rfl,rfl,(by exact wpF_val (r_move (.tmp 7) rfl (hsame.out 7 (.inl (by decide)))) ⟨_,rfl,hS,trivial,rfl⟩)⟩
               · obtain rfl := Option.some.inj ho; exact ⟨rfl,rfl,(by exact wpF_val (r_move (.tmp 3) rfl (hsame.out 3 (.inl (by decide)))) ⟨_,rfl,hS,trivial,rfl⟩)⟩
               · obtain rfl := Option.some.inj ho; exact ⟨rfl,rfl,(by exact wpF_val (run_sl_hi under24w size24w (.tmp 35) (.tmp 36) A5 (rot y k).length c5 h rfl (hpre ⟨1, .data⟩ (by simp) rfl) (hpre ⟨2, .data⟩ (by simp) rfl) hh5) ⟨_,rfl,hS,trivial,HS6.out⟩)⟩
               · obtain rfl := Option.some.inj ho; exact ⟨rfl,rfl,(by exact wpF_val (r_move (.tmp 7) rfl (hsame.out 7 (.inl (by decide)))) ⟨_,rfl,hS,trivial,rfl⟩)⟩
               · obtain rfl := Option.some.inj ho; exact ⟨rfl,rfl,(by exact wpF_val (r_move (.tmp 3) rfl (hsame.out 3 (.inl (by decide)))) ⟨_,rfl,hS,trivial,rfl⟩)⟩
               · obtain rfl := Option.some.inj ho; exact ⟨rfl,rfl,(by exact wpF_val (run_sl_lo under24w size24w (.tmp 38) (.tmp 39) A5 (rot y k).length c5 h rfl (hpre ⟨4, .data⟩ (by simp) rfl) (hpre ⟨5, .data⟩ (by simp) rfl) hhl) ⟨_,rfl,hS,trivial,HS7.out⟩)⟩
               · obtain rfl := Option.some.inj ho; exact ⟨rfl,rfl,(by exact wpF_val (r_build89 (.tmp 37) (.tmp 40) A6 A7 _ _ _ _ rfl (hpre ⟨3, .data⟩ (by simp) rfl) (hpre ⟨6, .data⟩ (by simp) rfl)) ⟨_,rfl,hS,trivial,rfl⟩)⟩
             · intro a W2 hS hsame hsl
               have e0 : a.tmps.getD 34 undef = .func (.yield l) #[] #[] := hsl 0 (by omega)
               have e8 : a.tmps.getD 41 undef = .agg #[.slice A6 h c5, .slice A7 ((rot y k).length - h) (c5 - h)] := hsl 7 (by omega)
               have hj2 : J (j * r.length + k) W2 := HJA.out _ _ _ HK4.out.1 hS
               have hlk2 : j * r.length + k < 2 * r.length := by
                 have : j = 0 \/ j = 1 := by omega
                 rcases this with rfl | rfl <;> omega
               have hel : ElT r (j * r.length + k) (.agg #[.slice A6 h c5, .slice A7 ((rot y k).length - h) (c5 - h)]) W2 := ⟨A6,h,c5,A7,_,_,rfl,by rw [HAK.out,HH.out]; exact HI6.out.below hS,by rw [HAK.out,HH.out]; exact HI7.out.below hS⟩
               obtain ⟨fn,tmps,assign,body,hy,hR⟩ := HY.out _ _ W2 hj2 hlk2 hel
               have HSS : Hid (KeepC wo W2) := Lib.hid (HK4.out.2.trans (KeepC.of_below hS))
               have hfr := hsame.frame (Nat.le_of_ble_eq_true rfl)
               refine wpOpIn_of rfl rfl ⟨fun _ _ => trivial, ?_⟩
               rw [Fence.wide_round,Oper.semAt_none]
               have hrun : ∀ o : Oper,o.op = .call { callee := .value (.tmp 34),args := #[.tmp 41],argTypes := #[110] } -> (execOp a.eval o).run Tryz.prog W2 = .ok (.round l fn tmps assign body) W2 := fun o ho => by
                 unfold execOp
                 have h1 : a.eval (.tmp 34) = .func (.yield l) #[] #[] := e0
                 have h2 : a.eval (.tmp 41) = .agg #[.slice A6 h c5, .slice A7 ((rot y k).length - h) (c5 - h)] := e8
                 simp only [ho,resolve,List.map_toArray,List.map_cons,List.map_nil,h1,h2]
                 simp [go_sem,hy]
               rw [hrun _ rfl]
               refine ⟨fun hh => by simp at hh,hR.mono ?_⟩
               rintro e W3 (⟨rfl,hj3,hkp⟩ | ⟨rfl,hj3⟩)
               · refine wpOpIn_of rfl rfl (wpF_val (r_not (.tmp 42) true rfl (put_getD_same _ _ _ (by rw [hsame.size]; exact Nat.le_of_ble_eq_true rfl))) ?_)
                 have HS3 := Lib.hid (show J (j * r.length + (k + 1)) W3 /\ KeepC wo W3 from ⟨hj3,HSS.out.trans hkp⟩)
                 clear hS hsl e0 e8 hj2 hy hR hrun hj3 hkp hel HSS
                 generalize (fun i => a.tmps.getD (34 + i) undef) = vs2 at hfr
                 subst hfr
                 simp only [Act.put,List.take_succ_cons,List.take_zero,List.drop_succ_cons,List.drop_zero,List.map_cons,List.map_nil,List.range,List.range.loop,List.cons_append,List.nil_append,List.setIfInBounds_toArray,Nat.reduceAdd]
                 gi_wp2_with fail
                 exact ⟨⟨k + 1,by go_num,by omega,HS3⟩,by simp [intOf]; omega⟩
               · refine wpOpIn_of rfl rfl (wpF_val (r_not (.tmp 42) false rfl (put_getD_same _ _ _ (by rw [hsame.size]; exact Nat.le_of_ble_eq_true rfl))) ?_)
                 have HJX := Lib.hid hj3
                 clear hS hsl e0 e8 hj2 hy hR hrun hj3 hel HSS
                 generalize (fun i => a.tmps.getD (34 + i) undef) = vs2 at hfr
                 subst hfr
                 simp only [Act.put,List.take_succ_cons,List.take_zero,List.drop_succ_cons,List.drop_zero,List.map_cons,List.map_nil,List.range,List.range.loop,List.cons_append,List.nil_append,List.setIfInBounds_toArray,Nat.reduceAdd]
                 gi_wp2_with fail
                 exact bodyPost_ret (results_none rfl _ _ _) rfl ⟨⟨_,rfl⟩, .inr ⟨_,HJX.out⟩⟩
         · obtain rfl : k = r.length := by omega
           gi_wp2_with fail
           have HKS : Hid (J ((j + 1) * r.length) wr /\ KeepC w3 wr) := Lib.hid ⟨by have := HK.out.1; rwa [Nat.succ_mul],HS.out.2.trans HK.out.2⟩
           refine ⟨?_,by simp [intOf]; omega⟩
           repeat apply Exists.intro
           refine ⟨⟨j + 1, ?_,by omega,HKS⟩,rfl⟩
           go_num
     · obtain rfl : j = 2 := by omega
       gi_wp2_with fail
       go_end0
       exact ⟨⟨_,rfl⟩, .inl HS.out.1⟩
end Go.Proofs
namespace Go.Proofs
open Go.RowKit Go.Shelf Go.Lib Go.Sort Go.Proofs.Ct Go.Proofs.Tz Go.Maps
theorem elim6_any (w : World) (vr : Value) (n : Nat) (rels : List (List Int)) (rel gen : Nat) (hR : Tab w vr rels) (he : presE n rels = 0) (hr : rel < rels.length) (hg : 1 <= gen /\ gen <= n) : Calls Tryz.prog 9 #[.agg #[.int .i64 (n : Int),vr], .int .i64 (rel : Int), .int .i64 (gen : Int)] w (ElimPost n rels rel gen w) := by
 by_cases hn1 : n = 1
 · exact elim6_no w vr n rels rel gen hR he hr hg (.inl hn1)
 · cases ho : onceW (rels.getD rel []) gen with
   | none => exact elim6_no w vr n rels rel gen hR he hr hg (.inr ho)
   | some k =>
     by_cases hl : 1000 < (imgW (rels.getD rel []) k).length
     · exact elim6_long w vr n rels rel gen k hR he hr hg hn1 ho hl
     · exact elim6_made w vr n rels rel gen k hR he hr hg hn1 ho (Nat.not_lt.1 hl)
theorem turns48_any (w : World) (v : Value) (x : List Int) (h : IntsAt w v x) : Calls Tryz.prog 79 #[v] w fun e w' => e = .returned (.func (.func 117) #[] #[.pointer (some ⟨w.heap.size,0,none⟩)]) /\ w' = w.alloc (.cells #[v] 36) := by
 obtain ⟨A,c,rfl, -, -, -⟩ := h.open_
 clear h
 go_enter Tryz.func79,Tryz.ntmps79
 go_wp2_with fail
 go_ret
 exact ⟨rfl,rfl⟩
end Go.Proofs
namespace Go.Proofs
open Go.RowKit Go.Shelf Go.Lib Go.Sort Go.Proofs.Ct Go.Proofs.Tz Go.Maps
def isWL (o : Obj) : Prop := ∃ (C : Array Value) (t : TypeId) (fr : Nat × Nat),o = .cells C t fr /\ (t = 3 \/ t = 36)
theorem isWL.cells {o : Obj} (h : isWL o) : o.isCells = true := by obtain ⟨C,t,fr,rfl, -⟩ := h; rfl
theorem isWL.w (C : Array Value) (fr : Nat × Nat) : isWL (.cells C 3 fr) := ⟨C,3,fr,rfl, .inl rfl⟩
theorem isWL.l (C : Array Value) (fr : Nat × Nat) : isWL (.cells C 36 fr) := ⟨C,36,fr,rfl, .inr rfl⟩
structure AgX (X : Nat -> Prop) (w w' : World) : Prop where
 size : w.heap.size <= w'.heap.size
 same : ∀ (k : Nat) (o : Obj),w.heap[k]? = some o -> isWL o -> ¬ X k -> w'.heap[k]? = some o
theorem AgX.refl (X : Nat -> Prop) (w : World) : AgX X w w := ⟨Nat.le_refl _,fun _ _ h _ _ => h⟩
theorem AgX.trans {X : Nat -> Prop} {a b c : World} (h : AgX X a b) (k : AgX X b c) : AgX X a c := ⟨Nat.le_trans h.size k.size,fun i o ho hc hx => k.same i o (h.same i o ho hc hx) hc hx⟩
theorem AgX.of_keepC {X : Nat -> Prop} {w w' : World} (h : KeepC w w') : AgX X w w' := ⟨h.1,fun k o ho hc _ => h.2 k o ho hc.cells⟩
theorem AgX.of_below {X : Nat -> Prop} {w w' : World} (h : Below w.heap.size w w') : AgX X w w' := AgX.of_keepC (KeepC.of_below h)
theorem AgX.mono {X Y : Nat -> Prop} {w w' : World} (h : AgX X w w') (k : ∀ i,X i -> Y i) : AgX Y w w' := ⟨h.size,fun i o ho hc hy => h.same i o ho hc fun hx => hy (k i hx)⟩
theorem AgX.grown {X : Nat -> Prop} {w w' : World} {row : Option Nat} (h : w.grownBy w' row) (hx : ∀ r,row = some r -> X r) : AgX X w w' := ⟨h.size,fun k _o ho _ hn => (h.block k (Array.getElem?_eq_some_iff.1 ho).1 fun e => hn (hx k e.symm)).trans ho⟩
theorem AgX.other {X : Nat -> Prop} {w w' : World} {r : Nat} {C : Array Value} {t : TypeId} {fr : Nat × Nat} (h : w.grownBy w' (some r)) (hr : w.heap[r]? = some (.cells C t fr)) (h3 : t ≠ 3) (h24 : t ≠ 36) : AgX X w w' := ⟨h.size,fun k o ho hw _ => (h.block k (Array.getElem?_eq_some_iff.1 ho).1 fun e => by
 obtain rfl := Option.some.inj e
 obtain ⟨D,s,f,rfl,hs⟩ := hw
 rw [hr] at ho
 injection ho with h5
 injection h5 with _ h6 _
 rcases hs with rfl | rfl
 · exact h3 h6
 · exact h24 h6).trans ho⟩
def TabX (X : Nat -> Prop) (w : World) (v : Value) (l : List (List Int)) : Prop := ∀ w',AgX X w w' -> Tab w' v l
section
variable {X Y : Nat -> Prop} {w w' : World} {v : Value} {l : List (List Int)}
theorem TabX.tab (h : TabX X w v l) : Tab w v l := h w (AgX.refl _ _)
theorem TabX.keep (h : TabX X w v l) (k : AgX X w w') : TabX X w' v l := fun _ h2 => h _ (k.trans h2)
theorem TabX.mono (h : TabX Y w v l) (k : ∀ i,X i -> Y i) : TabX X w v l := fun _ h2 => h _ (h2.mono k)
theorem TabX.new {F : Nat -> Prop} {w0 : World} (h : OutSt 36 F w0 w v l) (hx : ∀ k,X k -> k < w0.heap.size) : TabX X w v l := fun w' k => by
 have hb := h.out.block
 refine OwnT.tab (h.out.keep (fun r hr => ?_) (fun r hr => ?_) fun _ h => h)
 · obtain ⟨h1,C,hC⟩ := hb r hr
   exact (k.same r _ hC (isWL.l _ _) fun hx' => absurd (hx r hx') (by omega)).trans hC.symm
 · obtain ⟨h1,h2,C,hC⟩ := h.fs r hr
   exact (k.same r _ hC (isWL.w _ _) fun hx' => absurd (hx r hx') (by omega)).trans hC.symm
end
def XB (xb : Nat) (v : Value) (k : Nat) : Prop := k = xb \/ v.ownBlock = some k
structure StX (base xb : Nat) (s : Sp) (e : Int) (w : World) (A : Option Addr) (a : Nat) (B : Option Addr) (b : Nat) (C : Option Addr) (c : Nat) : Prop where
 box : w.heap[xb]? = some (.cells #[.int .i64 (s.n : Int), .slice A s.rels.length a, .slice B s.into.length b, .slice C s.back.length c, .int .i64 e] 68 (0,0))
 lo : base <= xb
 rels : TabX (XB xb (.slice C s.back.length c)) w (.slice A s.rels.length a) s.rels
 into : TabX (XB xb (.slice C s.back.length c)) w (.slice B s.into.length b) s.into
 back : OwnI base w (.slice C s.back.length c) s.back
section
variable {base xb : Nat} {s : Sp} {e : Int} {w w' : World} {A : Option Addr} {a : Nat} {B : Option Addr} {b : Nat} {C : Option Addr} {c : Nat}
theorem StX.below (h : StX base xb s e w A a B b C c) (hb : Below w.heap.size w w') : StX base xb s e w' A a B b C c :=
 ⟨(hb.block _ (Array.getElem?_eq_some_iff.1 h.box).1).trans h.box,h.lo,h.rels.keep (AgX.of_below hb),h.into.keep (AgX.of_below hb),owns_below h.back hb⟩
theorem StX.keepC (h : StX base xb s e w A a B b C c) (hk : KeepC w w') : StX base xb s e w' A a B b C c :=
 ⟨hk.2 _ _ h.box rfl,h.lo,h.rels.keep (AgX.of_keepC hk),h.into.keep (AgX.of_keepC hk),owns_keep h.back fun r hr => by
   obtain ⟨-,D,hD⟩ := owns_block h.back r hr
   exact (hk.2 _ _ hD rfl).trans hD.symm⟩
theorem StX.xlt (h : StX base xb s e w A a B b C c) : ∀ k,XB xb (.slice C s.back.length c) k -> k < w.heap.size := fun k hk => by
 rcases hk with rfl | hk
 · exact (Array.getElem?_eq_some_iff.1 h.box).1
 · obtain ⟨-,D,hD⟩ := owns_block h.back k hk
   exact (Array.getElem?_eq_some_iff.1 hD).1
theorem cells5 {v0 v1 v2 v3 v4 : Value} {t : TypeId} (h : w.heap[xb]? = some (.cells #[v0,v1,v2,v3,v4] t (0,0))) : w.cell? ⟨xb,0,none⟩ = some v0 /\ w.cell? ⟨xb,1,none⟩ = some v1 /\ w.cell? ⟨xb,2,none⟩ = some v2 /\ w.cell? ⟨xb,3,none⟩ = some v3 /\ w.cell? ⟨xb,4,none⟩ = some v4 :=
 ⟨by rw [cell_of_row _ _ _ _ _ _ h]; rfl,by rw [cell_of_row _ _ _ _ _ _ h]; rfl,by rw [cell_of_row _ _ _ _ _ _ h]; rfl,by rw [cell_of_row _ _ _ _ _ _ h]; rfl,by rw [cell_of_row _ _ _ _ _ _ h]; rfl⟩
end
/-! a shortening step by pairs -/
theorem findSome_none {α β : Type} {f : α -> Option β} {d : α} : ∀ {l : List α},(∀ j,j < l.length -> f (l.getD j d) = none) -> l.findSome? f = none
 | [],_ => rfl
 | x :: l,h => by
   have h0 : f x = none := h 0 (by simp)
   rw [List.findSome?_cons,h0]
   exact findSome_none (d := d) fun j hj => by have := h (j + 1) (by simpa using hj); simpa [List.getD_eq_getElem?_getD] using this
theorem findSome_at {α β : Type} {f : α -> Option β} {d : α} {b : β} : ∀ {l : List α} {m : Nat},(∀ j,j < m -> f (l.getD j d) = none) -> m < l.length -> f (l.getD m d) = some b -> l.findSome? f = some b
 | [],_,_,hm,_ => absurd hm (by simp)
 | x :: l,0,_,_,h => by
   have h0 : f x = some b := h
   rw [List.findSome?_cons,h0]
 | x :: l,m + 1,h,hm,hb => by
   have h0 : f x = none := h 0 (by omega)
   rw [List.findSome?_cons,h0]
   refine findSome_at (d := d) (m := m) (fun j hj => ?_) (by simpa using hm) ?_
   · have := h (j + 1) (by omega); simpa [List.getD_eq_getElem?_getD] using this
   · simpa [List.getD_eq_getElem?_getD] using hb
def sh2 (rels : List (List Int)) (i k : Nat) : Option (List (List Int)) := (turnsW (rels.getD i [])).findSome? fun t => (shortW (rels.getD k []) t).map fun s => cleanL (rels.set k s)
def pairsTo (n i : Nat) : List (Nat × Nat) := ((List.range i).map fun i => ((List.range n).filter fun k => k != i).map fun k => (i,k)).flatten
def rowTo (i m : Nat) : List (Nat × Nat) := ((List.range m).filter fun k => k != i).map fun k => (i,k)
theorem pairsTo_succ (n i : Nat) : pairsTo n (i + 1) = pairsTo n i ++ rowTo i n := by
 unfold pairsTo rowTo
 rw [List.range_succ,List.map_append,List.flatten_append]
 simp
theorem rowTo_succ (i m : Nat) : rowTo i (m + 1) = rowTo i m ++ (if m = i then [] else [(i,m)]) := by
 unfold rowTo
 rw [List.range_succ,List.filter_append,List.map_append]
 congr 1
 by_cases h : m = i <;> simp [h]
theorem rowTo_none {f : Nat × Nat -> Option (List (List Int))} {i : Nat} : ∀ {m : Nat},(∀ k,k < m -> k ≠ i -> f (i,k) = none) -> (rowTo i m).findSome? f = none
 | 0,_ => rfl
 | m + 1,h => by
   rw [rowTo_succ,List.findSome?_append,rowTo_none fun k hk => h k (by omega)]
   by_cases hm : m = i
   · simp [hm]
   · simp [hm,h m (by omega) hm]
theorem pairsTo_none {f : Nat × Nat -> Option (List (List Int))} {n : Nat} : ∀ {i : Nat},(∀ a k,a < i -> k < n -> k ≠ a -> f (a,k) = none) -> (pairsTo n i).findSome? f = none
 | 0,_ => rfl
 | i + 1,h => by
   rw [pairsTo_succ,List.findSome?_append,pairsTo_none fun a k ha => h a k (by omega),rowTo_none fun k hk => h i k (by omega) hk]
   rfl
theorem rowTo_some {f : Nat × Nat -> Option (List (List Int))} {i k : Nat} {l : List (List Int)} (h : ∀ j,j < k -> j ≠ i -> f (i,j) = none) (hk : k ≠ i) (hf : f (i,k) = some l) : ∀ {m : Nat},k < m -> (rowTo i m).findSome? f = some l
 | 0,hm => absurd hm (by omega)
 | m + 1,hm => by
   rw [rowTo_succ,List.findSome?_append]
   by_cases hkm : k < m
   · rw [rowTo_some h hk hf hkm]; rfl
   · obtain rfl : k = m := by omega
     rw [rowTo_none h]
     simp [hk,hf]
theorem pairsTo_some {f : Nat × Nat -> Option (List (List Int))} {n i k : Nat} {l : List (List Int)} (h1 : ∀ a k,a < i -> k < n -> k ≠ a -> f (a,k) = none) (h : ∀ j,j < k -> j ≠ i -> f (i,j) = none) (hk : k ≠ i) (hkn : k < n) (hf : f (i,k) = some l) : ∀ {m : Nat},i < m -> (pairsTo n m).findSome? f = some l
 | 0,hm => absurd hm (by omega)
 | m + 1,hm => by
   rw [pairsTo_succ,List.findSome?_append]
   by_cases him : i < m
   · rw [pairsTo_some h1 h hk hkn hf him]; rfl
   · obtain rfl : i = m := by omega
     rw [pairsTo_none h1,rowTo_some h hk hf hkn]
     rfl
theorem shortF_none {rels : List (List Int)} (h : ∀ i k,i < rels.length -> k < rels.length -> k ≠ i -> sh2 rels i k = none) : shortF rels = none :=
 pairsTo_none (n := rels.length) (i := rels.length) (f := fun ik => sh2 rels ik.1 ik.2) h
theorem shortF_at {rels l : List (List Int)} {i k : Nat} (h1 : ∀ a k,a < i -> k < rels.length -> k ≠ a -> sh2 rels a k = none) (h2 : ∀ j,j < k -> j ≠ i -> sh2 rels i j = none) (hi : i < rels.length) (hk : k < rels.length) (hik : k ≠ i) (h : sh2 rels i k = some l) : shortF rels = some l :=
 pairsTo_some (n := rels.length) (f := fun ik => sh2 rels ik.1 ik.2) h1 h2 hik hk h hi
theorem sh2_none {rels : List (List Int)} {i k : Nat} (h : ∀ j,j < (turnsW (rels.getD i [])).length -> shortW (rels.getD k []) ((turnsW (rels.getD i [])).getD j []) = none) : sh2 rels i k = none :=
 findSome_none (d := []) fun j hj => by rw [h j hj]; rfl
theorem sh2_at {rels : List (List Int)} {i k m : Nat} {x : List Int} (h : ∀ j,j < m -> shortW (rels.getD k []) ((turnsW (rels.getD i [])).getD j []) = none) (hm : m < (turnsW (rels.getD i [])).length) (hx : shortW (rels.getD k []) ((turnsW (rels.getD i [])).getD m []) = some x) : sh2 rels i k = some (cleanL (rels.set k x)) :=
 findSome_at (d := []) (m := m) (fun j hj => by rw [h j hj]; rfl) hm (by rw [hx]; rfl)
/-! marks -/
def markD (D : Nat) : Deferred := { target := .collected D,args := #[] }
def Marks (B : Nat) (W : World) (ds : List Nat) : Prop := ds.Nodup /\ ∀ D ∈ ds,B <= D /\ W.heap[D]? = some (.deferred (some []))
theorem Marks.nil (B : Nat) (W : World) : Marks B W [] := ⟨List.nodup_nil,fun _ h => by cases h⟩
theorem Marks.keep {B : Nat} {W W' : World} {ds : List Nat} (h : Marks B W ds) (k : ∀ D o,B <= D -> W.heap[D]? = some o -> o.isCells = false -> W'.heap[D]? = some o) : Marks B W' ds :=
 ⟨h.1,fun D hD => ⟨(h.2 D hD).1,k D _ (h.2 D hD).1 (h.2 D hD).2 rfl⟩⟩
theorem Marks.below {B : Nat} {W W' : World} {ds : List Nat} (h : Marks B W ds) (k : Below W.heap.size W W') : Marks B W' ds :=
 h.keep fun _ _ _ ho _ => (k.block _ (Array.getElem?_eq_some_iff.1 ho).1).trans ho
theorem Marks.cons {B D : Nat} {W : World} {ds : List Nat} (h : Marks B W ds) (hD : B <= D) (hn : D ∉ ds) (hW : W.heap[D]? = some (.deferred (some []))) : Marks B W (D :: ds) :=
 ⟨List.nodup_cons.2 ⟨hn,h.1⟩,fun E hE => by
   rcases List.mem_cons.1 hE with rfl | hE
   · exact ⟨hD,hW⟩
   · exact h.2 E hE⟩
theorem marks_leave {F : Fence} {n : Nat} {fn : Func} {tmps : Array Value} {R : Ending -> World -> Prop} {B : Nat} : ∀ (ds : List Nat) (W : World),Marks B W ds ->
   (∀ W',Below B W W' -> KeepC W W' -> ∃ v,(results fn tmps).run Tryz.prog W' = .ok v W' /\ R (.returned v) W') -> LeavesInM F n Tryz.prog fn tmps R (ds.map markD) .returning W
 | [],W,_,h => h W (Below.refl _ _) (KeepC.refl _)
 | D :: ds,W,hm,h => by
   obtain ⟨hB,hD⟩ := hm.2 D List.mem_cons_self
   have hk : KeepC W (W.putObj D (.deferred none)) := KeepC.putObj hD rfl
   have hb : Below B W (W.putObj D (.deferred none)) := ⟨rfl,rfl,rfl,by simp,fun k hk => World.putObj_heap_other (by omega)⟩
   refine ⟨by simp, .inl ⟨D,_,rfl,run_takeDeferred hD, ?_⟩⟩
   refine marks_leave ds _ ⟨(List.nodup_cons.1 hm.1).2,fun E hE => ?_⟩ fun W' h1 h2 => h W' (hb.trans h1) (hk.trans h2)
   have hne : E ≠ D := fun e => (List.nodup_cons.1 hm.1).1 (e ▸ hE)
   exact ⟨(hm.2 E (List.mem_cons_of_mem _ hE)).1,(World.putObj_heap_other hne).trans (hm.2 E (List.mem_cons_of_mem _ hE)).2⟩
theorem frame_of_size {a : Act} {n : Nat} (h : a.tmps.size = n) : ∃ u : Nat -> Value,(∀ t,u t = a.tmps.getD t undef) /\ a = { tmps := ((List.range n).map u).toArray,defers := a.defers } := by
 refine ⟨fun t => a.tmps.getD t undef,fun _ => rfl, ?_⟩
 obtain ⟨t,d⟩ := a
 congr 1
 simp only at h
 apply Array.ext'
 apply List.ext_getElem?
 intro i
 simp only [List.getElem?_map]
 rcases Nat.lt_or_ge i n with hi | hi
 · have hit : i < t.size := by omega
   rw [List.getElem?_range hi]
   simp [Array.getD,hit]
 · rw [List.getElem?_eq_none (by simp; omega),List.getElem?_eq_none (by simp; omega)]
   rfl
structure BelX (X : Nat -> Prop) (w w' : World) : Prop where
 os : w'.os = w.os
 tape : w'.tape = w.tape
 output : w'.output = w.output
 size : w.heap.size <= w'.heap.size
 block : ∀ k,k < w.heap.size -> ¬ X k -> w'.heap[k]? = w.heap[k]?
theorem BelX.of_below {X : Nat -> Prop} {w w' : World} (h : Below w.heap.size w w') : BelX X w w' := ⟨h.os,h.tape,h.output,h.size,fun k hk _ => h.block k hk⟩
theorem BelX.of_grown {X : Nat -> Prop} {w w' : World} {r : Option Nat} (h : w.grownBy w' r) (hr : ∀ k,r = some k -> X k) : BelX X w w' := ⟨h.os,h.tape,h.output,h.size,fun k hk hx => h.block k hk fun e => hx (hr k e.symm)⟩
theorem BelX.trans {X : Nat -> Prop} {a b c : World} (h : BelX X a b) (k : BelX X b c) : BelX X a c := ⟨k.os.trans h.os,k.tape.trans h.tape,k.output.trans h.output,Nat.le_trans h.size k.size,fun i hi hx => (k.block i (Nat.lt_of_lt_of_le hi h.size) hx).trans (h.block i hi hx)⟩
theorem BelX.ag {X : Nat -> Prop} {w w' : World} (h : BelX X w w') : AgX X w w' := ⟨h.size,fun k _o ho _ hx => (h.block k (Array.getElem?_eq_some_iff.1 ho).1 hx).trans ho⟩
theorem BelX.below {X : Nat -> Prop} {B : Nat} {w w' : World} (h : BelX X w w') (hB : B <= w.heap.size) (hX : ∀ k,X k -> B <= k) : Below B w w' := ⟨h.os,h.tape,h.output,h.size,fun k hk => h.block k (by omega) fun hx => absurd (hX k hx) (by omega)⟩
end Go.Proofs
namespace Go.Proofs
open Go.RowKit Go.Shelf Go.Lib Go.Sort Go.Proofs.Ct Go.Proofs.Tz Go.Maps
theorem fld65_0 (b : Nat) (w : World) : (Instr.fieldAt 68 (.pointer (some ⟨b,0,none⟩)) 0).run Tryz.prog w = .ok (.pointer (some ⟨b,0,none⟩)) w := by kernel_rfl
theorem fld65_1 (b : Nat) (w : World) : (Instr.fieldAt 68 (.pointer (some ⟨b,0,none⟩)) 1).run Tryz.prog w = .ok (.pointer (some ⟨b,2,none⟩)) w := by kernel_rfl
theorem fld65_2 (b : Nat) (w : World) : (Instr.fieldAt 68 (.pointer (some ⟨b,0,none⟩)) 2).run Tryz.prog w = .ok (.pointer (some ⟨b,3,none⟩)) w := by kernel_rfl
theorem fld65_3 (b : Nat) (w : World) : (Instr.fieldAt 68 (.pointer (some ⟨b,0,none⟩)) 3).run Tryz.prog w = .ok (.pointer (some ⟨b,4,none⟩)) w := by kernel_rfl
theorem fld27_0 (b : Nat) (w : World) : (Instr.fieldAt 24 (.pointer (some ⟨b,0,none⟩)) 0).run Tryz.prog w = .ok (.pointer (some ⟨b,0,none⟩)) w := by kernel_rfl
theorem agg63 (w : World) : (isAgg 66).run Tryz.prog w = .ok false w := by kernel_rfl
section
variable {o : Oper} {a : Act} {w w' : World} {n l : Nat} {next : Act -> World -> Prop} {Q : Exit -> Act -> World -> Prop} {v : Value}
theorem wpR_skip (hnc : ∀ c,o.op ≠ .defer c) (hrun : (execOp a.eval o).run Tryz.prog w = .ok .skip w') (h : next (a.put o.dst undef) w') : o.wpIn (Fence.wide.inRound l) n Tryz.prog a w next Q :=
 ⟨fun _ _ => trivial,by rw [show (Fence.wide.inRound l).round = some l from rfl,Oper.semAt_eq _ _ _ (fun c h => hnc c h),hrun]; exact h⟩
theorem there5 {W : World} {xb : Nat} {v0 v1 v2 v3 v4 : Value} {t : TypeId} (h : W.heap[xb]? = some (.cells #[v0,v1,v2,v3,v4] t (0,0))) : W.there xb 0 2 := fun j hj => by
 have : j = 0 \/ j = 1 := by omega
 rcases this with rfl | rfl
 · exact ⟨by rw [cell_of_row _ _ _ _ _ _ h]; rfl,by simp [World.frozen?,h]⟩
 · exact ⟨by rw [cell_of_row _ _ _ _ _ _ h]; rfl,by simp [World.frozen?,h]⟩
theorem r_storeP (x y : Operand) (xb : Nat) (g : Int) (A : Option Addr) (m c : Nat) (ho : o.op = .store 24 x y) (hx : a.eval x = .pointer (some ⟨xb,0,none⟩)) (hy : a.eval y = .agg #[.int .i64 g, .slice A m c]) (ht : w.there xb 0 2) : (execOp a.eval o).run Tryz.prog w = .ok .skip (w.setCells xb 0 [.int .i64 g, .slice A m c]) := by
 have := run_storeAt_mid (P := Tryz.prog) w xb 0 24 #[.int .i64 g, .slice A m c] ht info40s (by simp [Value.oneCell'])
 unfold execOp
 simp only [ho,hx,hy,Sem.run_bind,this,Result.andThen_ok]
 rfl
theorem heap_storeP {W : World} {xb : Nat} {v0 v1 v2 v3 v4 x y : Value} {t : TypeId} (h : W.heap[xb]? = some (.cells #[v0,v1,v2,v3,v4] t (0,0))) : (W.setCells xb 0 [x,y]).heap[xb]? = some (.cells #[x,y,v2,v3,v4] t (0,0)) := by
 simp [World.setCells,setCell_eq,mapBlock,Array.getElem?_modify,h,onCells]
theorem heap_set5 {W : World} {xb k : Nat} {cs : Array Value} {z : Value} {t : TypeId} (h : W.heap[xb]? = some (.cells cs t (0,0))) : (W.setCell ⟨xb,k,none⟩ z).heap[xb]? = some (.cells (cs.setIfInBounds k z) t (0,0)) := by
 simp [setCell_eq,mapBlock,Array.getElem?_modify,h,onCells]
theorem st28 (ad : Addr) (u : Value) (y : Int) (hc : w.cell? ad = some u) (hf : w.frozen? ad = false) : (Instr.storeAt 27 (.pointer (some ad)) (.int .i64 y)).run Tryz.prog w = .ok () (w.setCell ad (.int .i64 y)) := by
 simp [Instr.storeAt,Instr.sureAddr,go_sem,hc,hf]
theorem st25 (ad : Addr) (u : Value) (A : Option Addr) (m c : Nat) (hc : w.cell? ad = some u) (hf : w.frozen? ad = false) : (Instr.storeAt 22 (.pointer (some ad)) (.slice A m c)).run Tryz.prog w = .ok () (w.setCell ad (.slice A m c)) := by
 simp [Instr.storeAt,Instr.sureAddr,go_sem,hc,hf]
theorem st23 (ad : Addr) (u : Value) (A : Option Addr) (m c : Nat) (hc : w.cell? ad = some u) (hf : w.frozen? ad = false) : (Instr.storeAt 35 (.pointer (some ad)) (.slice A m c)).run Tryz.prog w = .ok () (w.setCell ad (.slice A m c)) := by
 simp [Instr.storeAt,Instr.sureAddr,go_sem,hc,hf]
end
theorem agg4w (w : World) : (isAgg 4).run Tryz.prog w = .ok false w := by kernel_rfl
theorem results_c4 {fn : Func} {p : Tmp} (h : fn.results = #[.cell p 4]) (tmps : Array Value) (w : World) (g : Nat) (bv : Bool) (hp : tmps.getD p undef = .pointer (some ⟨g,0,none⟩)) (hg : w.heap[g]? = some (.cells #[.bool bv] 4 (0,0))) : (results fn tmps).run Tryz.prog w = .ok (.bool bv) w := by
 have hp' : tmps[p]?.getD undef = .pointer (some ⟨g,0,none⟩) := by simpa using hp
 have hc : w.cell? ⟨g,0,none⟩ = some (.bool bv) := by rw [cell_of_row _ _ _ _ _ _ hg]; rfl
 have hb := agg4w w
 simp [results,h,hp',asAddr,loadVar,hb,hc,go_sem]
theorem arr_of_size {t : Array Value} {n : Nat} (h : t.size = n) : ∃ u : Nat -> Value,(∀ k,u k = t.getD k undef) /\ t = ((List.range n).map u).toArray := by
 obtain ⟨u,h1,h2⟩ := frame_of_size (a := { tmps := t,defers := [] }) h
 exact ⟨u,h1,congrArg Act.tmps h2⟩
inductive SlC where
 | eq (v : Value) | tup (n : Int) (l : List (List Int)) | agg (n : Int) (l : List (List Int))
def SlC.holds (X : Nat -> Prop) : SlC -> Value -> World -> Prop
 | .eq u,v,_ => v = u
 | .tup n l,v,w => ∃ A c,v = .tuple #[.agg #[.int .i64 n, .slice A l.length c], .int .i64 0] /\ TabX X w (.slice A l.length c) l
 | .agg n l,v,w => ∃ A c,v = .agg #[.int .i64 n, .slice A l.length c] /\ TabX X w (.slice A l.length c) l
theorem SlC.keep {X : Nat -> Prop} {xb : Nat} {s : SlC} {v : Value} {w w' : World} (hX : X xb) (h : w.grownBy w' (some xb)) : s.holds X v w -> s.holds X v w' := by
 cases s with
 | eq u => exact id
 | tup n l => exact fun ⟨A,c,e,k⟩ => ⟨A,c,e,k.keep (AgX.grown h fun r hr => by cases hr; exact hX)⟩
 | agg n l => exact fun ⟨A,c,e,k⟩ => ⟨A,c,e,k.keep (AgX.grown h fun r hr => by cases hr; exact hX)⟩
theorem below_grown {w w' : World} {xb : Nat} (h : RowKit.Below w.heap.size w w') : w.grownBy w' (some xb) := ⟨h.os,h.tape,h.output,h.size,fun k hk _ => h.block k hk⟩
theorem grown_trans {a b c : World} {r : Option Nat} (h : a.grownBy b r) (k : b.grownBy c r) : a.grownBy c r := ⟨k.os.trans h.os,k.tape.trans h.tape,k.output.trans h.output,Nat.le_trans h.size k.size,fun i hi hn => (k.block i (Nat.lt_of_lt_of_le hi h.size) hn).trans (h.block i hi hn)⟩
theorem OwnT.some_ {F : Nat -> Prop} {e : TypeId} {base n c : Nat} {A : Option Addr} {W : World} {xs : List (List Int)} (h : OwnT e base F W (.slice A n c) xs) (h0 : 0 < xs.length) : ∃ g,A = some ⟨g,0,none⟩ := by
 obtain ⟨vals,⟨hlen,ho⟩,hr⟩ := h
 rcases ho with ⟨e,h9⟩ | ⟨g',cap,cur,e, -⟩
 · exfalso
   have := hr.1
   rw [h9] at this
   simp at this
   omega
 · injection e with e1
   exact ⟨g',e1⟩
theorem own_put {F G : Nat -> Prop} {base g n c k : Nat} {W : World} {u : Value} {xs : List (List Int)} {x : List Int} (h : OwnT 36 base F W (.slice (some ⟨g,0,none⟩) n c) xs) (hF : ∀ r,F r -> r ≠ g) (hu : IntsF G W u x) (hG : ∀ r,G r -> r ≠ g) (hk : k < xs.length) (_h1 : u.oneCell' = true) :
   Tab (W.setCell ⟨g,k,none⟩ u) (.slice (some ⟨g,0,none⟩) n c) (xs.set k x) /\ (∃ z,W.cell? ⟨g,k,none⟩ = some z) /\ W.frozen? ⟨g,k,none⟩ = false /\ base <= g /\ n = xs.length := by
 obtain ⟨vals,⟨hlen,ho⟩,hr⟩ := h
 rcases ho with ⟨e, -⟩ | ⟨g',cap,cur,e,hb,hC,h4,hm,hs,ht⟩
 · cases e
 · injection e with e1 e2 e3
   injection e1 with e1
   injection e1 with e1
   subst e1 e2 e3
   rw [Nat.mul_one] at hs ht
   have hvl := hr.1
   have hkc : k < cur.size := by omega
   have hnew : (W.setCell ⟨g,k,none⟩ u).heap[g]? = some (.cells (cur.setIfInBounds k u) 36 (0,0)) := by
     rw [setCell_eq]
     simp [mapBlock,Array.getElem?_modify,hC,onCells]
   have hoth : ∀ r,r ≠ g -> (W.setCell ⟨g,k,none⟩ u).heap[r]? = W.heap[r]? := fun r hr => Below.heap_setCell W ⟨g,k,none⟩ u r hr
   refine ⟨⟨vals.set k u,⟨_,_,_,rfl,by rw [List.length_set]; omega,h4,hm,fun _ => ⟨g,0,rfl,fun j v hv => ?_⟩⟩,by rw [List.length_set,List.length_set]; exact hvl,fun i hi => ?_⟩,⟨_,by rw [cell_of_row _ _ _ _ _ _ hC]; exact Array.getElem?_eq_getElem hkc⟩,by simp [World.frozen?,hC],hb,by omega⟩
   · rw [cell_of_row _ _ _ _ _ _ hnew,Nat.zero_add]
     have hj : j < vals.length := by have := (List.getElem?_eq_some_iff.1 hv).1; rwa [List.length_set] at this
     by_cases e : k = j
     · subst e
       rw [List.getElem?_set_self hj] at hv
       rw [Array.getElem?_setIfInBounds_self_of_lt hkc]
       exact hv
     · rw [List.getElem?_set_ne e] at hv
       rw [Array.getElem?_setIfInBounds_ne e, <- hv, <- ht,List.getElem?_take,if_pos (by omega),Array.getElem?_toList]
   · rw [List.length_set] at hi
     by_cases e : k = i
     · subst e
       refine ⟨u,by rw [List.getElem?_set_self (by omega)], ?_⟩
       rw [show (xs.set k x).getD k [] = x by simp [List.getD_eq_getElem?_getD,hi]]
       exact hu _ fun r hr => hoth r (hG r hr)
     · obtain ⟨z,hz,hx⟩ := hr.2 i hi
       refine ⟨z,by rw [List.getElem?_set_ne e]; exact hz, ?_⟩
       rw [show (xs.set k x).getD i [] = xs.getD i [] by simp [List.getD_eq_getElem?_getD,List.getElem?_set_ne e]]
       exact hx _ fun r hr => hoth r (hF r hr)
end Go.Proofs
