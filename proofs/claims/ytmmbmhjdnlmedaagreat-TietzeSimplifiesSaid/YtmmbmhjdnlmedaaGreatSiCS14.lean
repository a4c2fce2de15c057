/- tietze.Eliminate where the image is short enough; A range over a function whose values lie in memory that the iterator lays; its loop variable is boxed. -/
import Derived.Test.YtmmbmhjdnlmedaaGreatSiCS13
import Derived.Test.YtmmbmhjdnlmedaaGreatSiCS11
import Derived.Test.YtmmbmhjdnlmedaaGreatSiCS10
import Derived.Deep.CutRange
import Derived.Test.YtmmbmhjdnlmedaaGreatSiCS8
namespace Go.Proofs
open Go.RowKit Go.Shelf Go.Lib Go.Sort Go.Proofs.Ct Go.Proofs.Tz Go.Maps
theorem sl_cut {w : World} {A : Option Addr} {n c k h : Nat} {vs : List Value} (hS : Sl w (.slice A n c) vs) (hk : k <= h) (hh : h <= vs.length) : ∃ A',sliced A k h c 1 = .slice A' (h - k) (c - k) /\ Sl w (.slice A' (h - k) (c - k)) ((vs.take h).drop k) := by
 obtain ⟨A0,n',cap,e,h1,h2,h3,h4⟩ := hS
 obtain ⟨rfl,rfl,rfl⟩ := Value.slice.inj e
 refine ⟨_,rfl,⟨_,_,_,rfl,by simp; omega,by omega,by omega,fun hp => ?_⟩⟩
 obtain ⟨b,off,rfl,hr⟩ := h4 (by omega)
 refine ⟨b,off + k, ?_,fun j v hj => ?_⟩
 · rw [if_neg (by omega),Nat.mul_one]
   exact congrArg some (Addr.add_mid b off k)
 · have hj' : vs[k + j]? = some v := by
     simp only [List.getElem?_drop,List.getElem?_take] at hj
     split at hj
     · exact hj
     · cases hj
   have := hr (k + j) v hj'
   rwa [show off + k + j = off + (k + j) by omega]
theorem kept_slv : Kept SlV := fun _w _w' _v _x hk h => ⟨h.1.keep fun p hp => cell_blocks hk p hp,h.2⟩
theorem kept_two : Kept (LAt SlV []) := kept_L kept_slv
def RepV (o : Option (List (List Int))) (b w : World) (v : Value) : Prop := match o with | none => v = .slice none 0 0 | some m => ∃ A c F,v = .slice A m.length c /\ OutSt 36 F b w v m
def repErr (o : Option (List (List Int))) : Int := match o with | none => 4 | some _ => 0
theorem RepV.below {o : Option (List (List Int))} {b w w' : World} {v : Value} (h : RepV o b w v) (hb : Below w.heap.size w w') : RepV o b w' v := by
 cases o with
 | none => exact h
 | some m => obtain ⟨A,c,F,h1,h2⟩ := h; exact ⟨A,c,F,h1,h2.below' hb⟩
theorem RepV.form {o : Option (List (List Int))} {b w : World} {v : Value} (h : RepV o b w v) : ∃ A m c,v = .slice A m c := by
 cases o with
 | none => exact ⟨_,_,_,h⟩
 | some m => obtain ⟨A,c,F,h1,h2⟩ := h; exact ⟨_,_,_,h1⟩
inductive SlR where
 | eq (v : Value) | two (X Y : List Value) | tab (l : List (List Int)) | rep (o : Option (List (List Int))) (b : World) | repT (o : Option (List (List Int))) (b : World)
def SlR.holds : SlR -> Value -> World -> Prop
 | .eq u,v,_ => v = u
 | .two X Y,v,w => LAt SlV [] w v [X,Y]
 | .tab l,v,w => Tab w v l
 | .rep o b,v,w => RepV o b w v
 | .repT o b,v,w => ∃ u,v = .tuple #[u, .int .i64 (repErr o)] /\ RepV o b w u
theorem SlR.keep {s : SlR} {v : Value} {w w' : World} (h : Below w.heap.size w w') : s.holds v w -> s.holds v w' := by
 cases s with
 | eq u => exact id
 | two X Y => exact fun k => kept_two.below k h
 | tab l => exact fun k => kept_tab.below k h
 | rep o b => exact fun k => RepV.below k h
 | repT o b => exact fun ⟨u,e,k⟩ => ⟨u,e,k.below h⟩
theorem call24 (args : Array Value) (w : World) : (callFunc 31 args).run Tryz.prog w = .ok (.enter 31 args) w := enters_of Tryz.func31 (by kernel_rfl) rfl args w
theorem call25 (args : Array Value) (w : World) : (callFunc 32 args).run Tryz.prog w = .ok (.enter 32 args) w := enters_of Tryz.func32 (by kernel_rfl) rfl args w
theorem fld27_1 (b : Nat) (w : World) : (Instr.fieldAt 24 (.pointer (some ⟨b,0,none⟩)) 1).run Tryz.prog w = .ok (.pointer (some ⟨b,1,none⟩)) w := by kernel_rfl
theorem agg25w (w : World) : (isAgg 22).run Tryz.prog w = .ok false w := by kernel_rfl
theorem r_ld25 {o : Oper} {a : Act} {w : World} {v : Value} (x : Operand) (ad : Addr) (ho : o.op = .load 22 x) (hx : a.eval x = .pointer (some ad)) (hc : w.cell? ad = some v) : (execOp a.eval o).run Tryz.prog w = .ok (.value v) w := by
 have hb := agg25w w
 unfold execOp
 simp only [ho,hx]
 simp [Instr.loadAt,Instr.sureAddr,loadVar,hb,hc,go_sem]
theorem bs81_2 (A B : Option Addr) (n c m d : Nat) (w : World) : (Instr.buildSlice 102 2 #[(0, .slice A n c),(1, .slice B m d)]).run Tryz.prog w = .ok (.slice (some ⟨w.heap.size,0,none⟩) 2 2) (w.alloc (.cells #[.slice A n c, .slice B m d] 22)) := by kernel_rfl
theorem r_bs81 {o : Oper} {a : Act} {w : World} (x y : Operand) (A B : Option Addr) (n c m d : Nat) (ho : o.op = .buildSlice 102 2 #[(0,x),(1,y)]) (hx : a.eval x = .slice A n c) (hy : a.eval y = .slice B m d) : (execOp a.eval o).run Tryz.prog w = .ok (.value (.slice (some ⟨w.heap.size,0,none⟩) 2 2)) (w.alloc (.cells #[.slice A n c, .slice B m d] 22)) := by
 have hb := bs81_2 A B n c m d w
 unfold execOp
 simp only [ho,List.map_toArray,List.map_cons,List.map_nil,hx,hy,Sem.run_bind,hb,Result.andThen_ok]
 rfl
theorem two_at {W : World} {b : Nat} {A B : Option Addr} {n c m d : Nat} {X Y : List Value} (hb : W.heap[b]? = some (.cells #[.slice A n c, .slice B m d] 22 (0,0))) (hX : SlV W (.slice A n c) X) (hY : SlV W (.slice B m d) Y) : LAt SlV [] W (.slice (some ⟨b,0,none⟩) 2 2) [X,Y] := by
 refine ⟨[.slice A n c, .slice B m d],⟨_,2,2,rfl,rfl,Nat.le_refl _,by simp [maxLen],fun _ => ⟨b,0,rfl,fun j v hv => ?_⟩⟩,rfl,fun i hi => ?_⟩
 · rw [cell_of_row _ _ _ _ _ _ hb,Nat.zero_add]
   simpa using hv
 · have hi2 : i = 0 \/ i = 1 := by simp at hi; omega
   rcases hi2 with rfl | rfl
   · exact ⟨_,rfl,hX⟩
   · exact ⟨_,rfl,hY⟩
theorem ints_cell {w : World} {u : Value} {x : List Int} (h : IntsAt w u x) : u.oneCell' = true := by
 obtain ⟨A,c,rfl, -⟩ := h.open_
 rfl
theorem tab_erase {w W : World} {u : Value} {vals : List Value} {rels : List (List Int)} {rel : Nat} (hb : Below w.heap.size w W) (hlen : vals.length = rels.length) (hv : ∀ i,i < rels.length -> ∃ z,vals[i]? = some z /\ IntsAt w z (rels.getD i [])) (hr : rel < rels.length) (hs : Sl W u (vals.take rel ++ vals.drop (rel + 1))) : Tab W u (rels.eraseIdx rel) := by
 rw [<- List.eraseIdx_eq_take_drop_succ] at hs
 refine ⟨vals.eraseIdx rel,hs,by rw [List.length_eraseIdx,List.length_eraseIdx,hlen],fun i hi => ?_⟩
 rw [List.length_eraseIdx,if_pos hr] at hi
 by_cases h : i < rel
 · obtain ⟨z,h1,h2⟩ := hv i (by omega)
   refine ⟨z,by rw [List.getElem?_eraseIdx,if_pos h]; exact h1, ?_⟩
   rw [show (rels.eraseIdx rel).getD i [] = rels.getD i [] by rw [List.getD_eq_getElem?_getD,List.getElem?_eraseIdx,if_pos h, <- List.getD_eq_getElem?_getD]]
   exact h2.below hb
 · obtain ⟨z,h1,h2⟩ := hv (i + 1) (by omega)
   refine ⟨z,by rw [List.getElem?_eraseIdx,if_neg h]; exact h1, ?_⟩
   rw [show (rels.eraseIdx rel).getD i [] = rels.getD (i + 1) [] by rw [List.getD_eq_getElem?_getD,List.getElem?_eraseIdx,if_neg h, <- List.getD_eq_getElem?_getD]]
   exact h2.below hb
theorem lenL_le {m : Nat} : ∀ {l : List (List Int)},(∀ z ∈ l,z.length <= m) -> lenL l <= l.length * m
 | [],_ => by simp [lenL]
 | x :: l,h => by
   have h1 := lenL_le (l := l) fun z hz => h z (List.mem_cons_of_mem _ hz)
   have h2 := h x List.mem_cons_self
   rw [lenL_cons,List.length_cons,Nat.succ_mul]
   omega
def elO (n gen : Nat) (V : List Int) : Option (List (List Int)) -> (List (List Int) × List (List Int)) ⊕ Int
 | none => .inr 4
 | some l => if 4000 < lenL l then .inr 4 else .inl (cleanL l,imgsW n gen V)
set_option maxRecDepth 100000 in
set_option maxHeartbeats 4000000 in
theorem elim6_made (w : World) (vr : Value) (n : Nat) (rels : List (List Int)) (rel gen k : Nat) (hR : Tab w vr rels) (he : presE n rels = 0) (hr : rel < rels.length) (hg : 1 <= gen /\ gen <= n) (hn1 : n ≠ 1) (hon : onceW (rels.getD rel []) gen = some k) (hlong : (imgW (rels.getD rel []) k).length <= 1000) : Calls Tryz.prog 9 #[.agg #[.int .i64 (n : Int),vr], .int .i64 (rel : Int), .int .i64 (gen : Int)] w (ElimPost n rels rel gen w) := by
 obtain ⟨Ar,cr,rfl⟩ := Tab.form hR
 have H19 : Hid (∀ W,Tab W (.slice Ar rels.length cr) rels -> Calls Tryz.prog 26 #[.agg #[.int .i64 (n : Int), .slice Ar rels.length cr]] W fun e w' => (∃ y,e = .returned (.tuple #[.int .i64 0, .int .i64 y])) /\ Below W.heap.size W w') := Lib.hid fun W h => by
   have := pcheck78_any W _ (n : Int) rels h
   unfold PresPost at this
   rw [he] at this
   exact this
 obtain ⟨gn,hgn,hg1,hg2,hln,hall⟩ := presE_good he
 obtain rfl : n = gn := by omega
 clear hgn
 obtain ⟨O,hOd⟩ : ∃ O,O = sbL (imgsW n gen (imgW (rels.getD rel []) k)) (rels.eraseIdx rel) := ⟨_,rfl⟩
 have hE : elimE n rels rel gen = elO n gen (imgW (rels.getD rel []) k) O := by
   unfold elimE
   rw [hon]
   simp only [if_neg hn1,if_neg (Nat.not_lt.2 hlong)]
   rw [hOd]
   cases sbL (imgsW n gen (imgW (rels.getD rel []) k)) (rels.eraseIdx rel) <;> rfl
 have HE := Lib.hid hE
 have HOD := Lib.hid hOd
 have HEO := Lib.hid (elim_ok he hr hg hn1 hon)
 have hmr : ∀ z ∈ rels.getD rel [],Mild z := mild_ok (by omega) (hall rel hr).1
 have HMR := Lib.hid hmr
 have hlr := (hall rel hr).2
 have hkr : k < (rels.getD rel []).length := once_lt hon
 have HOI : Hid (onceI (rels.getD rel []) gen = k) := Lib.hid (by unfold onceI; rw [hon])
 have HLONG := Lib.hid hlong
 have H22 : Hid (∀ W u (x : List Int),IntsAt W u x -> (∀ z ∈ x,Mild z) -> x.length <= 1000000 -> Calls Tryz.prog 29 #[u] W fun e w'' => ∃ v,e = .returned v /\ ((∃ A c,v = .slice A (invW x).length c /\ IntsAt w'' v (invW x)) /\ Below W.heap.size W w'')) := Lib.hid fun W u x h1 h2 h3 => (invert72_any W u x h1 h2 (by omega)).mono fun e w'' ⟨A,c,e1,h4,h5⟩ => ⟨_,e1,⟨A,c,rfl,OwnI.ints h4 (Mild.fits fun z hz => mild_inv' h2 z (Ct.red_mem hz))⟩,h5⟩
 have H21 : Hid (∀ W u v (x y : List Int),IntsAt W u x -> IntsAt W v y -> (∀ z ∈ x,Mild z) -> (∀ z ∈ y,Mild z) -> x.length + y.length <= 1000000 -> Calls Tryz.prog 28 #[u,v] W fun e w'' => ∃ v,e = .returned v /\ ((∃ A c,v = .slice A (mulW x y).length c /\ IntsAt w'' v (mulW x y)) /\ Below W.heap.size W w'')) := Lib.hid fun W u v x y h1 h2 h3 h4 h5 => (mul41_any W u v x y h1 h2 h3 h4 (by omega)).mono fun e w'' ⟨A,c,e1,h6,h7⟩ => ⟨_,e1,⟨A,c,rfl,OwnI.ints h6 (Mild.fits fun z hz => mild_app h3 h4 z (Ct.red_mem hz))⟩,h7⟩
 have HBN := Lib.hid (ElBox.new w n Ar cr rels.length)
 have HRR := Lib.hid hR
 have hr0 : (0 : Int) <= (rel : Int) := Int.natCast_nonneg _
 have hrl : (rel : Int) < (rels.length : Int) := by omega
 have hrd : decide ((rel : Int) < 0) = false := decide_eq_false (by omega)
 have hrd2 : decide ((rels.length : Int) <= (rel : Int)) = false := decide_eq_false (by omega)
 have hgd : decide ((gen : Int) < 1) = false := decide_eq_false (by omega)
 have hgd2 : decide ((n : Int) < (gen : Int)) = false := decide_eq_false (by omega)
 have hbn : ((n : Int) == 1) = false := beq_eq_false_iff_ne.2 (by omega)
 have hk0 : (0 : Int) <= (k : Int) := Int.natCast_nonneg _
 have hkd : decide ((k : Int) < 0) = false := decide_eq_false (by omega)
 clear hR he hE hn1 hon hall hmr hlong hOd
 have HIM : Hid (imgW (rels.getD rel []) k = if (rels.getD rel []).getD k 0 < 0 then invW (mulW (invW ((rels.getD rel []).take k)) (invW ((rels.getD rel []).drop (k + 1)))) else mulW (invW ((rels.getD rel []).take k)) (invW ((rels.getD rel []).drop (k + 1)))) := Lib.hid rfl
 have HLT : Hid (((rels.getD rel []).take k).length <= 1000000) := Lib.hid (by rw [List.length_take]; omega)
 have HLD : Hid (((rels.getD rel []).drop (k + 1)).length <= 1000000) := Lib.hid (by rw [List.length_drop]; omega)
 have HM1 : Hid (∀ z ∈ invW ((rels.getD rel []).take k),Mild z) := Lib.hid fun z hz => mild_inv' (fun y hy => HMR.out y (List.mem_of_mem_take hy)) z (Ct.red_mem hz)
 have HM2 : Hid (∀ z ∈ invW ((rels.getD rel []).drop (k + 1)),Mild z) := Lib.hid fun z hz => mild_inv' (fun y hy => HMR.out y (List.mem_of_mem_drop hy)) z (Ct.red_mem hz)
 have HL12 : Hid ((invW ((rels.getD rel []).take k)).length + (invW ((rels.getD rel []).drop (k + 1))).length <= 1000000) := Lib.hid (by
   have h1 := red_length (inv ((rels.getD rel []).take k))
   have h2 := red_length (inv ((rels.getD rel []).drop (k + 1)))
   rw [length_inv,List.length_take] at h1
   rw [length_inv,List.length_drop] at h2
   unfold invW
   omega)
 have HMV : Hid (∀ z ∈ mulW (invW ((rels.getD rel []).take k)) (invW ((rels.getD rel []).drop (k + 1))),Mild z) := Lib.hid fun z hz => mild_app HM1.out HM2.out z (Ct.red_mem hz)
 have HLV : Hid ((mulW (invW ((rels.getD rel []).take k)) (invW ((rels.getD rel []).drop (k + 1)))).length <= 1000000) := Lib.hid (by
   have h1 := red_length (invW ((rels.getD rel []).take k) ++ invW ((rels.getD rel []).drop (k + 1)))
   rw [List.length_append] at h1
   have := HL12.out
   unfold mulW
   omega)
 go_enter Tryz.func9,Tryz.ntmps9
 go_wp2_with ((with_reducible refine wpList_sel 6 ?_); refine wpList_val rfl (r_alloc40 rfl) ?_)
 generalize hw0 : (w.alloc (.cells #[.int .i64 (n : Int), .slice Ar rels.length cr] 24)).alloc (.cells zero40 24) = w0 at *
 have HBX := Lib.hid fun W (hb : Below w0.heap.size w0 W) => HBN.out.at_ hb
 have HB0 := Lib.hid HBN.out.below
 have HBP := Lib.hid HBN.out.arg
 have HR0 := Lib.hid (kept_tab.below HRR.out HB0.out)
 clear hw0 HRR
 go_wp2_with (first
   | ((with_reducible refine wpList_sel 20 ?_); refine wpList_val rfl (r_loadAt 24 (.tmp 3) _ _ rfl rfl (load40 HBP.out)) ?_)
   | (go_at_call 26; (with_reducible refine (H19.out w0 HR0.out).mono ?_); rintro e w1 ⟨⟨y,rfl⟩,hb⟩
      have HB1 := Lib.hid hb
      obtain ⟨⟨p1,q1⟩,x1,x2⟩ := HBX.out _ hb
      have hR1 := kept_tab.below HR0.out hb
      obtain ⟨A',c',e',t1,t2,t3⟩ := hR1.open_
      injection e' with e1 _ e3
      subst e1 e3
      obtain ⟨b,o,rfl,hcc⟩ := t3 (by omega)
      obtain ⟨u,hu,hI⟩ := hcc rel hr
      obtain ⟨Au,cu,rfl,u1,u2,u3⟩ := hI.open_
      obtain ⟨bu,ou,rfl,hcu⟩ := u3 (by omega)
      have HCU := Lib.hid (hcu k hkr)
      have HI := Lib.hid hI
      obtain ⟨A1,hs1,hi1⟩ := ints_cut hI (k := 0) (h := k) (by omega) (by omega)
      obtain ⟨A2,hs2,hi2⟩ := ints_cut hI (k := k + 1) (h := (rels.getD rel []).length) (by omega) (Nat.le_refl _)
      rw [List.take_length] at hi2
      rw [List.drop_zero] at hi1
      simp only [Nat.sub_zero] at hs1 hi1
      have hkc : k <= cu := by omega
      have hkx : k + 1 <= (rels.getD rel []).length := hkr
      have HS1 := Lib.hid hs1
      have HS2 := Lib.hid hs2
      have HI1 := Lib.hid hi1
      have HI2 := Lib.hid hi2
      have HO := Lib.hid (once20_any w1 _ _ (gen : Int) (by omega) hI)
      have HX2 := Lib.hid x2
      clear x1 x2 hb hR1 t1 t2 t3 hcc hI u2 u3 hcu hs1 hs2 hi1 hi2
      generalize (rels.getD rel []).length = lx at *)
   | (go_at_call 27
      refine HO.out.mono ?_
      rintro e w2 ⟨rfl,hb2⟩
      rw [HOI.out]
      have HB2 := Lib.hid (HB1.out.trans (hb2.mono HB1.out.size))
      have HB12 := Lib.hid hb2
      obtain ⟨⟨p2,q2⟩,x1,x2⟩ := HBX.out _ HB2.out
      clear p1 q1 hu hb2 HO x1 x2))
 refine (wpIn_wide (n := 3)).1 ?_
 refine wpIn_region_all (by kernel_rfl) 11 rfl (fun i => if i < 10 then some (64 + i) else some 13) (lex_of (by kernel_rfl)) (fun _ W => Below w1.heap.size w1 W)
   (fun i v W => (([.eq (.slice (some ⟨bu,ou,none⟩) lx cu), .eq (.int .i64 (k : Int)), .eq (.slice A1 k cu), .ints (invW ((rels.getD rel []).take k)), .eq (.slice (some ⟨bu,ou,none⟩) lx cu), .eq (.int .i64 (k : Int)), .eq (.int .i64 ((k + 1 : Nat) : Int)), .eq (.slice A2 (lx - (k + 1)) (cu - (k + 1))), .ints (invW ((rels.getD rel []).drop (k + 1))), .ints (mulW (invW ((rels.getD rel []).take k)) (invW ((rels.getD rel []).drop (k + 1)))), .ints (mulW (invW ((rels.getD rel []).take k)) (invW ((rels.getD rel []).drop (k + 1))))] : List SlE).getD i (.eq undef)).holds v W)
   (fun _ W W' => Below W.heap.size W W') (dm_inj (by kernel_rfl)) (fun i j v W W' _ _ _ h => SlE.keep h) (dm_lt (n := 145) (by kernel_rfl)) (HB12.out.trans ((Below.refl w2.heap.size w2).drew.mono HB12.out.size)) ?_ ?_
 · intro ls q o a w3 hq ho hS hls hcl hP hpre
   have hcases : q = 0 \/ q = 1 \/ q = 2 \/ q = 3 \/ q = 4 \/ q = 5 \/ q = 6 \/ q = 7 \/ q = 8 \/ q = 9 \/ q = 10 := by
     have : q < 11 := hq
     omega
   rcases hcases with rfl | rfl | rfl | rfl | rfl | rfl | rfl | rfl | rfl | rfl | rfl
   · obtain rfl := Option.some.inj ho
     exact wpOpIn_of rfl rfl (wpW_val (r_move (.tmp 11) rfl (hP.out 11 (dm_out (by kernel_rfl)))) ⟨_,rfl,hS,Below.refl _ _,(fun h => by simp at h),rfl⟩)
   · obtain rfl := Option.some.inj ho
     exact wpOpIn_of rfl rfl (wpW_val (r_move (.tmp 12) rfl (hP.out 12 (dm_out (by kernel_rfl)))) ⟨_,rfl,hS,Below.refl _ _,(fun h => by simp at h),rfl⟩)
   · obtain rfl := Option.some.inj ho
     exact wpOpIn_of rfl rfl (wpW_val ((run_sl_hi under24w size24w (.tmp 64) (.tmp 65) (some ⟨bu,ou,none⟩) lx cu k rfl (hpre ⟨0, .data⟩ (by simp) rfl).2 (hpre ⟨1, .data⟩ (by simp) rfl).2 hkc).trans (congrArg (fun v => Result.ok (Next.value v) _) HS1.out)) ⟨_,rfl,hS,Below.refl _ _,(fun h => by simp at h),rfl⟩)
   · obtain rfl := Option.some.inj ho
     exact wpOpIn_of rfl rfl (wpW_call (r_call1 (.tmp 66) _ _ rfl (hpre ⟨2, .data⟩ (by simp) rfl).2 call22) (H22.out w3 _ _ (HI1.out.below hS) (fun z hz => HMR.out z (List.mem_of_mem_take hz)) HLT.out) fun v w4 hR => ⟨v,rfl,hS.trans (hR.2.mono hS.size),hR.2,(fun h => by simp at h),hR.1⟩)
   · obtain rfl := Option.some.inj ho
     exact wpOpIn_of rfl rfl (wpW_val (r_move (.tmp 11) rfl (hP.out 11 (dm_out (by kernel_rfl)))) ⟨_,rfl,hS,Below.refl _ _,(fun h => by simp at h),rfl⟩)
   · obtain rfl := Option.some.inj ho
     exact wpOpIn_of rfl rfl (wpW_val (r_move (.tmp 12) rfl (hP.out 12 (dm_out (by kernel_rfl)))) ⟨_,rfl,hS,Below.refl _ _,(fun h => by simp at h),rfl⟩)
   · obtain rfl := Option.some.inj ho
     exact wpOpIn_of rfl rfl (wpW_val (r_add1 (.tmp 69) k rfl (hpre ⟨5, .data⟩ (by simp) rfl).2 (by omega)) ⟨_,rfl,hS,Below.refl _ _,(fun h => by simp at h),rfl⟩)
   · obtain rfl := Option.some.inj ho
     exact wpOpIn_of rfl rfl (wpW_val ((run_sl_lo under24w size24w (.tmp 68) (.tmp 70) (some ⟨bu,ou,none⟩) lx cu (k + 1) rfl (hpre ⟨4, .data⟩ (by simp) rfl).2 (hpre ⟨6, .data⟩ (by simp) rfl).2 hkx).trans (congrArg (fun v => Result.ok (Next.value v) _) HS2.out)) ⟨_,rfl,hS,Below.refl _ _,(fun h => by simp at h),rfl⟩)
   · obtain rfl := Option.some.inj ho
     exact wpOpIn_of rfl rfl (wpW_call (r_call1 (.tmp 71) _ _ rfl (hpre ⟨7, .data⟩ (by simp) rfl).2 call22) (H22.out w3 _ _ (HI2.out.below hS) (fun z hz => HMR.out z (List.mem_of_mem_drop hz)) HLD.out) fun v w4 hR => ⟨v,rfl,hS.trans (hR.2.mono hS.size),hR.2,(fun h => by simp at h),hR.1⟩)
   · obtain rfl := Option.some.inj ho
     obtain ⟨B1,d1,e1,g1⟩ := (hpre ⟨3, .data⟩ (by simp) rfl).2
     obtain ⟨B2,d2,e2,g2⟩ := (hpre ⟨8, .data⟩ (by simp) rfl).2
     exact wpOpIn_of rfl rfl (wpW_call (r_call2 (.tmp 67) (.tmp 72) _ _ _ rfl rfl rfl call21) (H21.out w3 _ _ _ _ g1 g2 HM1.out HM2.out HL12.out) fun v w4 hR => ⟨v,rfl,hS.trans (hR.2.mono hS.size),hR.2,(fun h => by simp at h),hR.1⟩)
   · obtain rfl := Option.some.inj ho
     exact wpOpIn_of rfl rfl (wpW_val (r_assign (.tmp 73) rfl rfl) ⟨_,rfl,hS,Below.refl _ _,(fun h => by simp at h),(hpre ⟨9, .data⟩ (by simp) rfl).2⟩)
 · intro ls a w3 hall hS hP hsl
   obtain ⟨A5,c5,e5,g5⟩ := hsl 10 (by decide)
   obtain ⟨vs,hvs,hfr⟩ := hP.frame 145 rfl
   have e6 : vs 13 = .slice A5 (mulW (invW ((rels.getD rel []).take k)) (invW ((rels.getD rel []).drop (k + 1)))).length c5 := (hvs 13).trans e5
   rw [e5] at g5
   have HV0 := Lib.hid g5
   have HBS := Lib.hid hS
   have HBW := Lib.hid (HB1.out.trans (hS.mono HB1.out.size))
   obtain ⟨-,x1,x2⟩ := HBX.out _ HBW.out
   have HX3 := Lib.hid x2
   have hcz := (HBS.out.cell (p := ⟨bu,ou + k,none⟩) (World.block_lt_of_cell? _ _ HCU.out)).trans HCU.out
   clear hsl hP hall hvs p2 q2 g5 hS x1 x2 e5
   subst hfr
   simp only [List.range,List.range.loop,List.map_cons,List.map_nil,List.any_cons,List.any_nil,Nat.reduceAdd,Nat.reduceBEq,Nat.reduceLT,Option.some_beq_some,Bool.or_false,if_true,if_false,List.getD_cons_zero,List.getD_cons_succ,Bool.or_true,Bool.false_eq_true]
   rw [e6]
   generalize mulW (invW ((rels.getD rel []).take k)) (invW ((rels.getD rel []).drop (k + 1))) = V0 at *
   generalize (rels.getD rel []).getD k 0 = z at *
   have hv0 : (0 : Int) <= (V0.length : Int) := Int.natCast_nonneg _
   have hv1 : (V0.length : Int) <= 1000000 := by have := HLV.out; omega
   have HMW : Hid (∀ y ∈ imgW (rels.getD rel []) k,Mild y) := Lib.hid (by
     rw [HIM.out]
     split
     · exact fun y hy => mild_inv' HMV.out y (Ct.red_mem hy)
     · exact HMV.out)
   have HIL : Hid (∀ j,((imgsW n gen (imgW (rels.getD rel []) k)).getD j []).length <= 1000) := Lib.hid (HEO.out.len HLONG.out)
   have HIMD := Lib.hid HEO.out.mild
   have HPR := Lib.hid HEO.out.pres
   have HRS := Lib.hid HEO.out.rest
   have HMANY := Lib.hid HEO.out.many
   clear HEO
   generalize imgW (rels.getD rel []) k = V at *
   have hV0 : (0 : Int) <= (V.length : Int) := Int.natCast_nonneg _
   have hV1 : (V.length : Int) <= 1000 := by have := HLONG.out; omega
   have hvd : decide (1000 < (V.length : Int)) = false := decide_eq_false (by omega)
   go_upto_if 78 with fail
   go_cut [13] from 78 (fun z13 wx => ∃ A c,z13 = .slice A V.length c /\ Hid (IntsAt wx (.slice A V.length c) V /\ Below w1.heap.size w1 wx))
   case first =>
     by_cases hz : z < 0
     · have HVE : Hid (V = invW V0) := Lib.hid (by rw [HIM.out,if_pos hz])
       have HV := Lib.hid (H22.out w3 _ V0 HV0.out HMV.out HLV.out)
       go_wp2_with (go_at_call 29; (refine HV.out.mono ?_); rintro e w4 ⟨v,rfl,⟨A6,c6,rfl,h6⟩,hb4⟩)
       go_meet
       exact ⟨A6,c6,by rw [HVE.out],Lib.hid ⟨by rw [HVE.out]; exact h6,HBS.out.trans (hb4.mono HBS.out.size)⟩⟩
     · have HVE : Hid (V = V0) := Lib.hid (by rw [HIM.out,if_neg hz])
       go_wp2_with fail
       go_meet
       exact ⟨A5,c5,by rw [HVE.out],Lib.hid ⟨by rw [HVE.out]; exact HV0.out,HBS.out⟩⟩
   case rest =>
     obtain ⟨A6,c6,rfl,HC6⟩ := hcut
     have HBC := Lib.hid (HB1.out.trans (HC6.out.2.mono HB1.out.size))
     obtain ⟨⟨p3,q3⟩, -⟩ := HBX.out _ HBC.out
     have HMK := Lib.hid (makeW wc n (by omega))
     have HST := Lib.hid (OutSt.made wc wc (Below.refl _ _) n (by omega))
     have hn0 : (0 : Int) <= (n : Int) := Int.natCast_nonneg _
     have hn16 : (n : Int) <= 16 := by omega
     have hn1 : (1 : Int) <= (n : Int) := by omega
     have hgn : (gen : Int) <= (n : Int) := by omega
     have hg1' : (1 : Int) <= (gen : Int) := by omega
     go_wp2_with ((with_reducible refine wpList_sel 87 ?_); refine wpList_val rfl (r_make 22 (.tmp 86) (.tmp 86) rfl rfl rfl HMK.out) ?_)
     generalize hw5 : wc.alloc (.cells (Array.replicate n (.slice none 0 0)) 36) = w5 at *
     clear hw5 HMK p3 q3
     go_loopw [15,90] (fun _ i wr => ∃ (j : Nat) (F : Nat -> Prop),j <= n /\ i = .int .i64 j /\ Hid (OutSt 36 F wc wr (.slice (some ⟨wc.heap.size,0,none⟩) n n) (imTo n gen j))) (fun _ i _ => n - (intOf i).toNat)
     case atStart => exact ⟨0,_,Nat.zero_le _,rfl,Lib.hid (by rw [imTo_zero]; exact HST.out)⟩
     case round =>
       clear HST
       obtain ⟨j,F,hj,rfl,HS⟩ := hrel
       have hj0 : (0 : Int) <= (j : Int) := Int.natCast_nonneg _
       by_cases hlt : j < n
       · have hlt' : (j : Int) < (n : Int) := by omega
         have hal : Below wr.heap.size wr (wr.alloc (.cells #[.int .i64 ((j : Int) + 1)] 3)) := (Below.refl _ _).alloc (Nat.le_refl _) _
         have hmj : ∀ y ∈ [(j : Int) + 1],Mild y := fun y hy => by rw [List.mem_singleton.1 hy]; unfold Mild; omega
         have hmw : ∀ y ∈ lowW (gen : Int) [(j : Int) + 1],Mild y := fun y hy => by
           unfold lowW at hy
           rw [List.map_singleton,List.mem_singleton] at hy
           rw [hy]
           unfold lowI Mild
           split <;> (try split) <;> omega
         have HW := Lib.hid (without23_any (wr.alloc (.cells #[.int .i64 ((j : Int) + 1)] 3)) _ [(j : Int) + 1] (gen : Int) (by omega) (ints_one wr ((j : Int) + 1) (by omega)) hmj (by simp))
         have HF := Lib.hid (Mild.fits hmw)
         have HS1 := Lib.hid (HS.out.below' hal)
         have HIMS := Lib.hid (imTo_succ (gen := gen) hlt)
         have HILn := Lib.hid (imTo_len (n := n) (gen := gen) (k := j) hj)
         unfold OwnPost at HW
         clear hal hmj hmw
         go_wp2_with (go_at_call 30; (refine HW.out.mono ?_); rintro e w6 ⟨A7,c7,rfl,ho,hb⟩
                      obtain ⟨hP,⟨z,hcz⟩,hfz⟩ := (HS1.out.with_row hb ho).put HF.out (k := j) (by rw [HILn.out]; exact hlt)
                      rw [HIMS.out] at hP
                      have HP := Lib.hid hP
                      clear hP ho hb)
         go_roundw
         case rel => exact ⟨j + 1,_,by omega,by go_num,Lib.hid HP.out⟩
         case measure => simp [intOf]; omega
       · obtain rfl : n = j := by omega
         obtain ⟨g1,hg1⟩ : ∃ g1,gen = g1 + 1 := ⟨gen - 1,by omega⟩
         have hgm : (gen : Int) - 1 = (g1 : Int) := by omega
         have hg10 : (0 : Int) <= (g1 : Int) := Int.natCast_nonneg _
         have hg1n : (g1 : Int) < (n : Int) := by omega
         have HIMD0 : Hid ((imTo n gen n).set g1 (lowW (gen : Int) V) = imgsW n gen V) := Lib.hid (by have := imTo_done (n := n) hg V; rwa [show gen - 1 = g1 by omega] at this)
         have HG1 : Hid (g1 < (imTo n gen n).length) := Lib.hid (by rw [imTo_len (Nat.le_refl n)]; omega)
         have HW := Lib.hid (without23_any wr _ V (gen : Int) (by omega) (HC6.out.1.below HS.out.below) HMW.out (by omega))
         have HF : Hid (Fits (lowW (gen : Int) V)) := Lib.hid (Mild.fits fun y hy => by
           unfold lowW at hy
           obtain ⟨x,hx,rfl⟩ := List.mem_map.1 hy
           have := HMW.out x hx
           unfold Mild at this ⊢
           unfold lowI
           split <;> (try split) <;> omega)
         unfold OwnPost at HW
         clear hg1
         go_upto_region 22 with
           (go_at_call 30; (refine HW.out.mono ?_); rintro e w6 ⟨A7,c7,rfl,ho,hb⟩
            obtain ⟨hP,⟨z,hcz⟩,hfz⟩ := (HS.out.with_row hb ho).put HF.out (k := g1) HG1.out
            rw [HIMD0.out] at hP
            have HP := Lib.hid hP
            clear hP ho hb)
         generalize hW5 : w6.setCell _ _ = W5 at *
         have HB5 : Hid (Below w0.heap.size w0 W5) := Lib.hid (HBC.out.trans (HP.out.below.mono HBC.out.size))
         have HT5 : Hid (Tab W5 (.slice (some ⟨wc.heap.size,0,none⟩) n n) (imgsW n gen V)) := Lib.hid HP.out.out.tab
         clear HW HF HS hcz hfz HG1 HIMD0
         obtain ⟨vals,hSl,hlen,hv⟩ := HR0.out
         have hone : ∀ y ∈ vals,y.oneCell' = true := fun y hy => by
           obtain ⟨i,hi,rfl⟩ := List.getElem_of_mem hy
           obtain ⟨u,h1,h2⟩ := hv i (by omega)
           rw [List.getElem?_eq_getElem hi] at h1
           obtain rfl := Option.some.inj h1
           exact ints_cell h2
         have hcr : rels.length <= cr := by
           obtain ⟨A9,c9,e9,h9, -⟩ := HR0.out.open_
           injection e9 with _ _ e9
           omega
         obtain ⟨B1,hs1,hc1⟩ := sl_cut hSl (k := 0) (h := rel) (by omega) (by omega)
         obtain ⟨B2,hs2,hc2⟩ := sl_cut hSl (k := rel + 1) (h := vals.length) (by omega) (Nat.le_refl _)
         rw [List.take_length] at hc2
         rw [List.drop_zero] at hc1
         rw [hlen] at hs2 hc2
         simp only [Nat.sub_zero] at hs1 hc1
         have HV1 : Hid (SlV w0 (.slice B1 rel cr) (vals.take rel)) := Lib.hid ⟨hc1,fun y hy => hone y (List.mem_of_mem_take hy)⟩
         have HV2 : Hid (SlV w0 (.slice B2 (rels.length - (rel + 1)) (cr - (rel + 1))) (vals.drop (rel + 1))) := Lib.hid ⟨hc2,fun y hy => hone y (List.mem_of_mem_drop hy)⟩
         have HSA := Lib.hid hs1
         have HSB := Lib.hid hs2
         have HVV := Lib.hid hv
         have H25 : Hid (∀ W v,Below w0.heap.size w0 W -> LAt SlV [] W v [vals.take rel,vals.drop (rel + 1)] -> Calls Tryz.prog 32 #[v] W fun e w'' => ∃ u,e = .returned u /\ (Tab w'' u (rels.eraseIdx rel) /\ Below W.heap.size W w'')) := Lib.hid fun W v hb h => by
           have hcat : catV [vals.take rel,vals.drop (rel + 1)] [vals.take rel,vals.drop (rel + 1)].length = vals.take rel ++ vals.drop (rel + 1) := by simp [catV]
           have h1 := concat25w_any W v _ h (by rw [hcat,List.length_append,List.length_take,List.length_drop]; omega)
           refine h1.mono ?_
           rintro e w'' ⟨A,c,rfl,h3,h4⟩
           rw [hcat] at h3 ⊢
           exact ⟨_,rfl,tab_erase (hb.trans (h4.mono hb.size)) hlen HVV.out hr (sl_of_owns h3),h4⟩
         have HBW5 : Hid (Below w.heap.size w W5) := Lib.hid (HB0.out.trans (HB5.out.mono HB0.out.size))
         have H24 : Hid (∀ W u,Below W5.heap.size W5 W -> Tab W u (rels.eraseIdx rel) -> Calls Tryz.prog 31 #[u, .slice (some ⟨wc.heap.size,0,none⟩) n n] W fun e w'' => ∃ v,e = .returned v /\ ((∃ u,v = .tuple #[u, .int .i64 (repErr O)] /\ RepV O w w'' u) /\ Below W.heap.size W w'')) := Lib.hid fun W u hb h => by
           have hlI : (imgsW n gen V).length = n := length_imgs n gen V
           have h1 := replace24_ok W u _ (rels.eraseIdx rel) (imgsW n gen V) h (kept_tab.below HT5.out hb) (by have := HMANY.out; omega) (fun j hj => (HRS.out j hj).1) (fun j hj => by rw [hlI]; exact (HRS.out j hj).2) HIMD.out HIL.out
           refine h1.mono ?_
           rintro e w'' ⟨h3,h4⟩
           rw [<- HOD.out] at h3
           cases O with
           | none => exact ⟨_,h3,⟨_,rfl,rfl⟩,h4⟩
           | some m =>
             obtain ⟨A,c,F9,h5,h6⟩ := h3
             exact ⟨_,h5,⟨_,rfl,A,c,F9,rfl,OutSt.base (HBW5.out.trans (hb.mono HBW5.out.size)) h6⟩,h4⟩
         have hrc : rel <= cr := by omega
         have hrl2 : rel + 1 <= rels.length := hr
         have hrl3 : rel <= 1000000 := by omega
         obtain ⟨⟨p6,q6⟩, -⟩ := HBX.out _ HB5.out
         have HQ6 := Lib.hid q6
         clear hSl hv hone hs1 hs2 hc1 hc2 q6
         refine (wpIn_wide (n := 3)).1 ?_
         refine wpIn_region_all (by kernel_rfl) 18 rfl (fun i => if i < 13 then some (110 + i) else if i = 13 then some 109 else if i < 16 then some (109 + i) else some i) (lex_of (by kernel_rfl)) (fun _ W => Below W5.heap.size W5 W)
           (fun i v W => (([.eq (.pointer (some ⟨w.heap.size,1,none⟩)), .eq (.slice (some ⟨b,o,none⟩) rels.length cr), .eq (.int .i64 (rel : Int)), .eq (.slice B1 rel cr), .eq (.pointer (some ⟨w.heap.size,1,none⟩)), .eq (.slice (some ⟨b,o,none⟩) rels.length cr), .eq (.int .i64 (rel : Int)), .eq (.int .i64 ((rel + 1 : Nat) : Int)), .eq (.slice B2 (rels.length - (rel + 1)) (cr - (rel + 1))), .two (vals.take rel) (vals.drop (rel + 1)), .tab (rels.eraseIdx rel), .eq (.slice (some ⟨wc.heap.size,0,none⟩) n n), .repT O w, .repT O w, .rep O w, .eq (.int .i64 (repErr O)), .rep O w, .eq (.int .i64 (repErr O))] : List SlR).getD i (.eq undef)).holds v W)
           (fun _ W W' => Below W.heap.size W W') (dm_inj (by kernel_rfl)) (fun i j v W W' _ _ _ h => SlR.keep h) (dm_lt (n := 145) (by kernel_rfl)) (Below.refl _ _).drew ?_ ?_
         · intro ls q o a w8 hq ho hS hls hcl hP hpre
           have hcases : q = 0 \/ q = 1 \/ q = 2 \/ q = 3 \/ q = 4 \/ q = 5 \/ q = 6 \/ q = 7 \/ q = 8 \/ q = 9 \/ q = 10 \/ q = 11 \/ q = 12 \/ q = 13 \/ q = 14 \/ q = 15 \/ q = 16 \/ q = 17 := by
             have : q < 18 := hq
             omega
           rcases hcases with rfl | rfl | rfl | rfl | rfl | rfl | rfl | rfl | rfl | rfl | rfl | rfl | rfl | rfl | rfl | rfl | rfl | rfl
           · obtain rfl := Option.some.inj ho
             exact wpOpIn_of rfl rfl (wpW_val (r_fld (.tmp 3) _ rfl (hP.out 3 (dm_out (by kernel_rfl))) (fld27_1 w.heap.size _)) ⟨_,rfl,hS,Below.refl _ _,(fun h => by simp at h),rfl⟩)
           · obtain rfl := Option.some.inj ho
             exact wpOpIn_of rfl rfl (wpW_val (r_ld25 (.tmp 110) ⟨w.heap.size,1,none⟩ rfl (hpre ⟨0, .data⟩ (by simp) rfl).2 (HBX.out _ (HB5.out.trans (hS.mono HB5.out.size))).1.2) ⟨_,rfl,hS,Below.refl _ _,(fun h => by simp at h),rfl⟩)
           · obtain rfl := Option.some.inj ho
             exact wpOpIn_of rfl rfl (wpW_val (r_move (.tmp 1) rfl (hP.out 1 (dm_out (by kernel_rfl)))) ⟨_,rfl,hS,Below.refl _ _,(fun h => by simp at h),rfl⟩)
           · obtain rfl := Option.some.inj ho
             exact wpOpIn_of rfl rfl (wpW_val ((run_sl_hi under25w size25w (.tmp 111) (.tmp 112) (some ⟨b,o,none⟩) rels.length cr rel rfl (hpre ⟨1, .data⟩ (by simp) rfl).2 (hpre ⟨2, .data⟩ (by simp) rfl).2 hrc).trans (congrArg (fun v => Result.ok (Next.value v) _) HSA.out)) ⟨_,rfl,hS,Below.refl _ _,(fun h => by simp at h),rfl⟩)
           · obtain rfl := Option.some.inj ho
             exact wpOpIn_of rfl rfl (wpW_val (r_fld (.tmp 3) _ rfl (hP.out 3 (dm_out (by kernel_rfl))) (fld27_1 w.heap.size _)) ⟨_,rfl,hS,Below.refl _ _,(fun h => by simp at h),rfl⟩)
           · obtain rfl := Option.some.inj ho
             exact wpOpIn_of rfl rfl (wpW_val (r_ld25 (.tmp 114) ⟨w.heap.size,1,none⟩ rfl (hpre ⟨4, .data⟩ (by simp) rfl).2 (HBX.out _ (HB5.out.trans (hS.mono HB5.out.size))).1.2) ⟨_,rfl,hS,Below.refl _ _,(fun h => by simp at h),rfl⟩)
           · obtain rfl := Option.some.inj ho
             exact wpOpIn_of rfl rfl (wpW_val (r_move (.tmp 1) rfl (hP.out 1 (dm_out (by kernel_rfl)))) ⟨_,rfl,hS,Below.refl _ _,(fun h => by simp at h),rfl⟩)
           · obtain rfl := Option.some.inj ho
             exact wpOpIn_of rfl rfl (wpW_val (r_add1 (.tmp 116) rel rfl (hpre ⟨6, .data⟩ (by simp) rfl).2 hrl3) ⟨_,rfl,hS,Below.refl _ _,(fun h => by simp at h),rfl⟩)
           · obtain rfl := Option.some.inj ho
             exact wpOpIn_of rfl rfl (wpW_val ((run_sl_lo under25w size25w (.tmp 115) (.tmp 117) (some ⟨b,o,none⟩) rels.length cr (rel + 1) rfl (hpre ⟨5, .data⟩ (by simp) rfl).2 (hpre ⟨7, .data⟩ (by simp) rfl).2 hrl2).trans (congrArg (fun v => Result.ok (Next.value v) _) HSB.out)) ⟨_,rfl,hS,Below.refl _ _,(fun h => by simp at h),rfl⟩)
           · obtain rfl := Option.some.inj ho
             have hal : Below w8.heap.size w8 (w8.alloc (.cells #[.slice B1 rel cr, .slice B2 (rels.length - (rel + 1)) (cr - (rel + 1))] 22)) := (Below.refl _ _).alloc (Nat.le_refl _) _
             have h08 : Below w0.heap.size w0 w8 := HB5.out.trans (hS.mono HB5.out.size)
             exact wpOpIn_of rfl rfl (wpW_val (r_bs81 (.tmp 113) (.tmp 118) B1 B2 _ _ _ _ rfl (hpre ⟨3, .data⟩ (by simp) rfl).2 (hpre ⟨8, .data⟩ (by simp) rfl).2) ⟨_,rfl,hS.trans (hal.mono hS.size),hal,(fun h => by simp at h),two_at (heap_alloc_new w8 _) ((HV1.out.below h08).below hal) ((HV2.out.below h08).below hal)⟩)
           · obtain rfl := Option.some.inj ho
             exact wpOpIn_of rfl rfl (wpW_call (r_call1 (.tmp 119) _ _ rfl rfl call25) (H25.out w8 _ (HB5.out.trans (hS.mono HB5.out.size)) (hpre ⟨9, .data⟩ (by simp) rfl).2) fun v w9 hR => ⟨v,rfl,hS.trans (hR.2.mono hS.size),hR.2,(fun h => by simp at h),hR.1⟩)
           · obtain rfl := Option.some.inj ho
             exact wpOpIn_of rfl rfl (wpW_val (r_move (.tmp 14) rfl (hP.out 14 (dm_out (by kernel_rfl)))) ⟨_,rfl,hS,Below.refl _ _,(fun h => by simp at h),rfl⟩)
           · obtain rfl := Option.some.inj ho
             exact wpOpIn_of rfl rfl (wpW_call (r_call2 (.tmp 120) (.tmp 121) _ _ _ rfl rfl (hpre ⟨11, .data⟩ (by simp) rfl).2 call24) (H24.out w8 _ hS (hpre ⟨10, .data⟩ (by simp) rfl).2) fun v w9 hR => ⟨v,rfl,hS.trans (hR.2.mono hS.size),hR.2,(fun h => by simp at h),hR.1⟩)
           · obtain rfl := Option.some.inj ho
             exact wpOpIn_of rfl rfl (wpW_val (r_move (.tmp 122) rfl rfl) ⟨_,rfl,hS,Below.refl _ _,(fun h => by simp at h),(hpre ⟨12, .data⟩ (by simp) rfl).2⟩)
           · obtain rfl := Option.some.inj ho
             obtain ⟨u9,e9,k9⟩ := (hpre ⟨13, .data⟩ (by simp) rfl).2
             exact wpOpIn_of rfl rfl (wpW_val (r_extract 0 (.tmp 109) _ rfl e9 rfl) ⟨_,rfl,hS,Below.refl _ _,(fun h => by simp at h),k9⟩)
           · obtain rfl := Option.some.inj ho
             obtain ⟨u9,e9,k9⟩ := (hpre ⟨13, .data⟩ (by simp) rfl).2
             exact wpOpIn_of rfl rfl (wpW_val (r_extract 1 (.tmp 109) _ rfl e9 rfl) ⟨_,rfl,hS,Below.refl _ _,(fun h => by simp at h),rfl⟩)
           · obtain rfl := Option.some.inj ho
             exact wpOpIn_of rfl rfl (wpW_val (r_assign (.tmp 123) rfl rfl) ⟨_,rfl,hS,Below.refl _ _,(fun h => by simp at h),(hpre ⟨14, .data⟩ (by simp) rfl).2⟩)
           · obtain rfl := Option.some.inj ho
             exact wpOpIn_of rfl rfl (wpW_val (r_assign (.tmp 124) rfl rfl) ⟨_,rfl,hS,Below.refl _ _,(fun h => by simp at h),(hpre ⟨15, .data⟩ (by simp) rfl).2⟩)
         · intro ls a W6 hall hS hP hsl
           obtain ⟨vs,hvs,hfr⟩ := hP.frame 145 rfl
           have s16 : RepV O w W6 (vs 16) := by rw [hvs 16]; exact hsl 16 (by decide)
           have e17 : vs 17 = .int .i64 (repErr O) := (hvs 17).trans (hsl 17 (by decide))
           obtain ⟨A7,m7,c7,e16⟩ := s16.form
           rw [e16] at s16
           have HS16 := Lib.hid s16
           have HS6 := Lib.hid hS
           have HB6 : Hid (Below w0.heap.size w0 W6) := Lib.hid (HB5.out.trans (hS.mono HB5.out.size))
           have HP6 := Lib.hid (HP.out.below' hS)
           obtain ⟨⟨p7,q7⟩, -⟩ := HBX.out _ HB6.out
           clear hsl hP hall hvs s16 hS p6
           subst hfr
           simp only [List.range,List.range.loop,List.map_cons,List.map_nil,List.any_cons,List.any_nil,Nat.reduceAdd,Nat.reduceBEq,Nat.reduceLT,Option.some_beq_some,Bool.or_false,if_true,if_false,List.getD_cons_zero,List.getD_cons_succ,Bool.or_true,Bool.false_eq_true,Nat.reduceEqDiff]
           rw [e16,e17]
           clear e16 e17
           go_upto_region 24 with fail
           have HN7 := Lib.hid (heap_alloc_new W6 (.cells #[.int .i64 ((n : Int) - 1), .slice A7 m7 c7] 24))
           have HB7 : Hid (Below W6.heap.size W6 (W6.alloc (.cells #[.int .i64 ((n : Int) - 1), .slice A7 m7 c7] 24))) := Lib.hid ((Below.refl _ _).alloc (Nat.le_refl _) _)
           generalize W6.alloc (.cells #[.int .i64 ((n : Int) - 1), .slice A7 m7 c7] 24) = W7 at *
           have HX7 := Lib.hid (HBX.out _ (HB6.out.trans (HB7.out.mono HB6.out.size))).2.2
           have HBW7 : Hid (Below w.heap.size w W7) := Lib.hid (HB0.out.trans ((HB6.out.trans (HB7.out.mono HB6.out.size)).mono HB0.out.size))
           clear p7 q7
           cases O with
           | none =>
             rw [show repErr none = 4 from rfl]
             go_wp2_with ((with_reducible refine wpList_sel 137 ?_); refine wpList_val rfl (r_build40 rfl) ?_; refine wpList_skip rfl (r_store40 (.tmp 6) (.tmp 137) rfl (w.heap.size + 1) zero40 zero40 rfl rfl HX7.out rfl rfl zero40_one) ?_)
             try simp only [Exit.inBlock,Exit.then]
             exact bodyPost_ret (results_27 (p := 6) (q := 7) (r := 8) rfl _ _ (w.heap.size + 1) zero40 (.slice none 0 0) (.int .i64 4) rfl rfl rfl (setRow_heap _ _ _ _ _ _ HX7.out) rfl) rfl ⟨by rw [HE.out]; rfl,below_setRow HBW7.out (Nat.le_succ _) _⟩
           | some l =>
             rw [show repErr (some l) = 0 from rfl]
             obtain ⟨A8,c8,F8,e8,h8⟩ := HS16.out
             injection e8 with e1 e2 e3
             subst e1 e2 e3
             have HLS := Lib.hid h8
             have hls := sbL_some HOD.out.symm
             have hll : lenL l <= 1000000000000 := by
               have h1 : l.length <= 100 := by rw [hls.1,List.length_map]; exact HMANY.out
               have h2 : ∀ z ∈ l,z.length <= 4000 := fun z hz => by
                 rw [hls.1] at hz
                 obtain ⟨y,hy,rfl⟩ := List.mem_map.1 hz
                 exact hls.2 y hy
               have h3 := lenL_le h2
               have h4 : l.length * 4000 <= 100 * 4000 := Nat.mul_le_mul_right _ h1
               omega
             have HL5 := Lib.hid (length5_any W7 (.slice A7 l.length c7) ((n : Int) - 1) l ((HLS.out.below' HB7.out).out.tab) hll)
             have hl0 : (0 : Int) <= (lenL l : Int) := Int.natCast_nonneg _
             have hl1 : (lenL l : Int) <= 1000000000000 := by omega
             clear hls
             by_cases h4 : 4000 < lenL l
             · have HE4 : Hid (elimE n rels rel gen = .inr 4) := Lib.hid (by rw [HE.out]; simp only [elO,if_pos h4])
               have hd : decide (4000 < (lenL l : Int)) = true := decide_eq_true (by omega)
               have h4' : (4000 : Int) < (lenL l : Int) := by omega
               clear HE h4
               generalize lenL l = ll at *
               go_wp2_with (first
                 | ((with_reducible refine wpList_sel 133 ?_); refine wpList_valG rfl (r_loadAt 24 (.tmp 18) _ _ rfl rfl (load40 HN7.out)) ?_)
                 | (go_at_call 11; (refine HL5.out.mono ?_); rintro e W8 ⟨rfl,hb8⟩
                    have HB8 := Lib.hid (HBW7.out.trans (hb8.mono HBW7.out.size))
                    have HX8 := Lib.hid ((hb8.block _ (Array.getElem?_eq_some_iff.1 HX7.out).1).trans HX7.out)
                    clear hb8)
                 | ((with_reducible refine wpList_sel 137 ?_); refine wpList_val rfl (r_build40 rfl) ?_; refine wpList_skip rfl (r_store40 (.tmp 6) (.tmp 137) rfl (w.heap.size + 1) zero40 zero40 rfl rfl HX8.out rfl rfl zero40_one) ?_))
               try simp only [Exit.inBlock,Exit.then]
               exact bodyPost_ret (results_27 (p := 6) (q := 7) (r := 8) rfl _ _ (w.heap.size + 1) zero40 (.slice none 0 0) (.int .i64 4) rfl rfl rfl (setRow_heap _ _ _ _ _ _ HX8.out) rfl) rfl ⟨by rw [HE4.out]; rfl,below_setRow HB8.out (Nat.le_succ _) _⟩
             · have HE4 : Hid (elimE n rels rel gen = .inl (cleanL l,imgsW n gen V)) := Lib.hid (by rw [HE.out]; simp only [elO,if_neg h4])
               have hd : decide (4000 < (lenL l : Int)) = false := decide_eq_false (by omega)
               have h4' : ¬ (4000 : Int) < (lenL l : Int) := by omega
               have hpe : presE ((n : Int) - 1) l = 0 := by
                 have := HPR.out l HOD.out.symm (by omega)
                 rwa [show ((n - 1 : Nat) : Int) = (n : Int) - 1 by omega] at this
               have HC26 : Hid (∀ W,Below W7.heap.size W7 W -> Calls Tryz.prog 23 #[.agg #[.int .i64 ((n : Int) - 1), .slice A7 l.length c7]] W (CleanPost ((n : Int) - 1) l W)) := Lib.hid fun W hb => clean26_ok W _ _ l ((HLS.out.below' HB7.out).below' hb).out.tab hpe
               unfold CleanPost at HC26
               have HW67 : Hid (w.heap.size <= W6.heap.size /\ W6.heap.size ≠ w.heap.size + 1) := Lib.hid (by
                 have h1 := HB0.out.size
                 have h2 := HB6.out.size
                 have h3 := HBN.out.size
                 first | omega | (have h3' := (Array.getElem?_eq_some_iff.1 HX7.out).1; have h5 := HBX.out _ HB6.out; have h6 := (Array.getElem?_eq_some_iff.1 h5.2.2).1; omega))
               clear HE h4 hpe
               generalize lenL l = ll at *
               generalize cleanL l = cl at *
               go_wp2_with (first
                 | ((with_reducible refine wpList_sel 133 ?_); refine wpList_valG rfl (r_loadAt 24 (.tmp 18) _ _ rfl rfl (load40 HN7.out)) ?_)
                 | (go_at_call 11; (refine HL5.out.mono ?_); rintro e W8 ⟨rfl,hb8⟩
                    have HB8 := Lib.hid hb8
                    have HN8 := Lib.hid ((hb8.block _ (Array.getElem?_eq_some_iff.1 HN7.out).1).trans HN7.out)
                    have HX8 := Lib.hid ((hb8.block _ (Array.getElem?_eq_some_iff.1 HX7.out).1).trans HX7.out)
                    have HC := Lib.hid (HC26.out W8 hb8)
                    clear hb8)
                 | ((with_reducible refine wpList_sel 139 ?_); refine wpList_val rfl (r_loadAt 24 (.tmp 18) _ _ rfl rfl (load40 HN8.out)) ?_)
                 | (go_at_call 23; (refine HC.out.mono ?_); rintro e W9 ⟨A9,c9,F9,rfl,h9⟩
                    have H9 := Lib.hid h9
                    have HN9 := Lib.hid ((h9.below.block _ (Array.getElem?_eq_some_iff.1 HN8.out).1).trans HN8.out)
                    have HX9 := Lib.hid ((h9.below.block _ (Array.getElem?_eq_some_iff.1 HX8.out).1).trans HX8.out)
                    have HSR : Hid (∀ x y,(W9.setCell ⟨W6.heap.size,0,none⟩ x).setCell ⟨W6.heap.size,1,none⟩ y = W9.setRow W6.heap.size #[x,y]) := Lib.hid fun x y => two_set HN9.out
                    obtain ⟨z1,z2,z3,z4⟩ := two_facts HN9.out (.int .i64 ((n : Int) - 1))
                    have HN10 : Hid (((W9.setCell ⟨W6.heap.size,0,none⟩ (.int .i64 ((n : Int) - 1))).setCell ⟨W6.heap.size,1,none⟩ (.slice A9 cl.length c9)).heap[W6.heap.size]? = some (.cells #[.int .i64 ((n : Int) - 1), .slice A9 cl.length c9] 24 (0,0))) := Lib.hid (by rw [HSR.out]; exact setRow_heap _ _ _ _ _ _ HN9.out)
                    have HX10 : Hid (((W9.setCell ⟨W6.heap.size,0,none⟩ (.int .i64 ((n : Int) - 1))).setCell ⟨W6.heap.size,1,none⟩ (.slice A9 cl.length c9)).heap[w.heap.size + 1]? = some (.cells zero40 24 (0,0))) := Lib.hid (by rw [HSR.out]; exact (setRow_other _ _ _ _ (Ne.symm HW67.out.2)).trans HX9.out)
                    have HSR2 : Hid (∀ x y,(((W9.setCell ⟨W6.heap.size,0,none⟩ (.int .i64 ((n : Int) - 1))).setCell ⟨W6.heap.size,1,none⟩ (.slice A9 cl.length c9)).setCell ⟨w.heap.size + 1,0,none⟩ x).setCell ⟨w.heap.size + 1,1,none⟩ y = ((W9.setCell ⟨W6.heap.size,0,none⟩ (.int .i64 ((n : Int) - 1))).setCell ⟨W6.heap.size,1,none⟩ (.slice A9 cl.length c9)).setRow (w.heap.size + 1) #[x,y]) := Lib.hid fun x y => two_set HX10.out
                    obtain ⟨y1,y2,y3,y4⟩ := two_facts HX10.out (.int .i64 ((n : Int) - 1))
                    obtain ⟨y5,y6⟩ := cell_of2 HN10.out
                    clear h9))
               try simp only [Exit.inBlock,Exit.then]
               have hbW8 : Below w.heap.size w W8 := HBW7.out.trans (HB8.out.mono HBW7.out.size)
               have hbwc : Below w.heap.size w wc := HB0.out.trans (HBC.out.mono HB0.out.size)
               have hO1 := (OutSt.base hbW8 H9.out).setRow (cs := #[.int .i64 ((n : Int) - 1), .slice A9 cl.length c9]) HN9.out HW67.out.1
               have hO2 := (OutSt.base hbwc (((HP6.out.below' HB7.out).below' HB8.out).below' H9.out.below)).setRow (cs := #[.int .i64 ((n : Int) - 1), .slice A9 cl.length c9]) HN9.out HW67.out.1
               refine bodyPost_ret (results_27 (p := 6) (q := 7) (r := 8) rfl _ _ (w.heap.size + 1) #[.int .i64 ((n : Int) - 1), .slice A9 cl.length c9] (.slice (some ⟨wc.heap.size,0,none⟩) n n) (.int .i64 0) rfl rfl rfl (by rw [HSR2.out]; exact setRow_heap _ _ _ _ _ _ HX10.out) rfl) rfl ?_
               rw [HSR2.out,HSR.out]
               refine ⟨?_,below_setRow hO1.below (Nat.le_succ _) _⟩
               have hX10 := HX10.out
               rw [HSR.out] at hX10
               rw [HE4.out]
               have hli : (imgsW n gen V).length = n := length_imgs n gen V
               exact ⟨A9,c9,F9,some ⟨wc.heap.size,0,none⟩,n,_,by rw [hli],hO1.setRow hX10 (Nat.le_succ _),by rw [hli]; exact hO2.setRow hX10 (Nat.le_succ _)⟩
end Go.Proofs
namespace Go.Proofs
open Go.RowKit Go.Shelf Go.Proofs.Ct Go.Maps
theorem wpIn_rangeValsB {α : Type} {n : Nat} {g : Operand} {ps : Array Tmp} {assign body : Code} {Q : Exit -> Act -> World -> Prop} {a : Act} {w : World}
   {gf : Nat} {lb : Array Value} (hg : a.eval g = .func (.func gf) #[] lb) (eg : ∀ args w,(callFunc gf args).run Tryz.prog w = .ok (.enter gf args) w)
   {encs : α -> Array Value} (N : Nat) (El : Nat -> α -> World -> Prop) (Kp : World -> World -> Prop)
   (hKt : ∀ {A B C : World},Kp A B -> Kp B C -> Kp A C) (hKb : ∀ (W : World) (l : Nat) (o o' : Obj),w.heap.size <= l -> W.heap[l]? = some o -> o.isCells = false -> Kp W (W.putObj l o')) (hps : ∀ x,(encs x).size = ps.size)
   (hEl : ∀ k x A (l : Nat) (o o' : Obj),El k x A -> w.heap.size <= l -> A.heap[l]? = some o -> o.isCells = false -> El k x (A.putObj l o'))
   (hseq : ∀ (l : Nat) (J Jx : Nat -> World -> Prop) (W : World),Below w.heap.size w W ->
     (∀ k A B,J k A -> Below A.heap.size A B -> J k B) -> (∀ k A B,Jx k A -> Below A.heap.size A B -> Jx k B) ->
     (∀ k x W1,J k W1 -> k < N -> El k x W1 -> YieldAt Fence.wide (n - 1 - 1) Tryz.prog l (encs x) W1 fun e W' => (e = .returned (.bool true) /\ J (k + 1) W' /\ Kp W1 W') \/ (e = .returned (.bool false) /\ Jx (k + 1) W')) ->
     J 0 W -> CallsIn Fence.wide (n - 1) Tryz.prog gf (#[.func (.yield l) #[] #[]] ++ lb) W fun e W' => (∃ v,e = .returned v) /\ (J N W' \/ ∃ k,Jx k W'))
   (I Ix : Nat -> World -> Prop) (hIa : ∀ k A B,I k A -> Below A.heap.size A B -> I k B) (hXa : ∀ k A B,Ix k A -> Below A.heap.size A B -> Ix k B)
   (hIp : ∀ k A l (o o' : Obj),I k A -> w.heap.size <= l -> A.heap[l]? = some o -> o.isCells = false -> I k (A.putObj l o'))
   (hXp : ∀ k A l (o o' : Obj),Ix k A -> w.heap.size <= l -> A.heap[l]? = some o -> o.isCells = false -> Ix k (A.putObj l o'))
   (h0 : I 0 w) (T : TypeId) (cs : α -> Array Value) (W₁ : α -> World -> World) (hW₁ : ∀ x W,Below W.heap.size W (W₁ x W) /\ (W₁ x W).heap[W.heap.size]? = some (.cells (cs x) T (0,0))) (hKp : ∀ {A B : World},w.heap.size <= A.heap.size -> Below A.heap.size A B -> Kp A B) (hElb : ∀ k x A B,El k x A -> Below A.heap.size A B -> El k x B) (pb : Tmp)
   (hassign : ∀ (l : Nat) (k : Nat) (x : α) (W : World) (K : Act -> World -> Prop),El k x W -> K { tmps := ((ps.zip (encs x)).foldl (fun t (p,v) => t.setIfInBounds p v) a.tmps).setIfInBounds pb (.pointer (some ⟨W.heap.size,0,none⟩)),defers := [] } (W₁ x W) ->
     assign.wpIn (Fence.wide.inRound l) (n - 1 - 1) Tryz.prog (Exit.then K (fun _ _ _ => False)) { tmps := (ps.zip (encs x)).foldl (fun t (p,v) => t.setIfInBounds p v) a.tmps,defers := [] } W)
   (hbody : ∀ (l : Nat) (k : Nat) (x : α) (b : Nat) (W : World),I k W -> k < N -> El k x W -> w.heap.size <= b -> W.heap[b]? = some (.cells (cs x) T (0,0)) -> body.wpIn (Fence.wide.inRound l) (n - 1 - 1) Tryz.prog (goesOnV w.heap.size Kp (I (k + 1)) (Ix (k + 1)) W) { tmps := ((ps.zip (encs x)).foldl (fun t (p,v) => t.setIfInBounds p v) a.tmps).setIfInBounds pb (.pointer (some ⟨b,0,none⟩)),defers := [] } W)
   (hdone : ∀ (D : Nat) (W : World),w.heap.size <= D -> I N W -> W.heap[D]? = some (.deferred (some [])) -> Q .normal { a with defers := { target := .collected D,args := #[] } :: a.defers } W)
   (hstop : ∀ (D : Nat) (k : Nat) (W : World),w.heap.size <= D -> Ix k W -> W.heap[D]? = some (.deferred (some [])) -> Code.ret.wpIn Fence.wide n Tryz.prog Q { a with defers := { target := .collected D,args := #[] } :: a.defers } W) :
   (Code.rangeFunc g ps assign body).wpIn Fence.wide n Tryz.prog Q a w := by
 refine wpIn_rangeFunc ?_
 intro fn hfn
 obtain ⟨rec,hrec⟩ : ∃ rec : LoopState -> Option Code -> Loop,rec = fun st pe => { state := st,pending := pe,fn,tmps := a.tmps,params := ps,assign,body,defers := w.heap.size } := ⟨_,rfl⟩
 obtain ⟨W1,hW1⟩ : ∃ W1,(w.alloc (.deferred (some []))).alloc (.loop (rec .ready none)) = W1 := ⟨_,rfl⟩
 have hL1 : W1.heap[w.heap.size + 1]? = some (.loop (rec .ready none)) := by
   rw [<- hW1]; have := World.alloc_heap_new (w.alloc (.deferred (some []))) (.loop (rec .ready none)); rwa [World.size_alloc] at this
 have hK1 : W1.heap[w.heap.size]? = some (.deferred (some [])) := by
   rw [<- hW1]; exact (Below.heap_alloc _ _ _ (by simp)).trans (World.alloc_heap_new w _)
 have hb1 : Below w.heap.size w W1 := by
   rw [<- hW1]; exact ((Below.refl _ w).alloc (Nat.le_refl _) _).alloc (by simp) _
 have hI1 : I 0 W1 := hIa _ _ _ h0 hb1
 refine ⟨w.heap.size + 1, [{ target := .collected w.heap.size,args := #[] }],W1, { target := .fn (.func gf) lb,args := #[.func (.yield (w.heap.size + 1)) #[] #[]] },W1,gf,
   #[.func (.yield (w.heap.size + 1)) #[] #[]] ++ lb,W1, ?_, ?_, ?_, ?_,fun h => (by simp [wideD] at h), ?_⟩
 · rw [<- hW1,hrec]; exact run_enterLoop_outer _ _ _ _ _
 · simp only [resolve,hg]
   simp [go_sem]
 · intro f' _; trivial
 · simp [invoke,go_sem,eg]
 · refine (hseq (w.heap.size + 1)
     (fun k W => I k W /\ W.heap[w.heap.size + 1]? = some (.loop (rec .ready none)) /\ W.heap[w.heap.size]? = some (.deferred (some [])))
     (fun k W => Ix k W /\ W.heap[w.heap.size + 1]? = some (.loop (rec .done (some .ret))) /\ W.heap[w.heap.size]? = some (.deferred (some [])))
     W1 hb1
     (fun k A B hs hb => ⟨hIa k A B hs.1 hb,(hb.block _ (Array.getElem?_eq_some_iff.1 hs.2.1).1).trans hs.2.1,(hb.block _ (Array.getElem?_eq_some_iff.1 hs.2.2).1).trans hs.2.2⟩)
     (fun k A B hs hb => ⟨hXa k A B hs.1 hb,(hb.block _ (Array.getElem?_eq_some_iff.1 hs.2.1).1).trans hs.2.1,(hb.block _ (Array.getElem?_eq_some_iff.1 hs.2.2).1).trans hs.2.2⟩)
     ?_ ⟨hI1,hL1,hK1⟩).mono ?_
   · -- ONE ROUND
     rintro k x W ⟨hi,hl,hk⟩ hlen hel
     have hlt : w.heap.size + 1 < W.heap.size := (Array.getElem?_eq_some_iff.1 hl).1
     have hy := run_yield (P := Tryz.prog) (args := encs x) hl (by rw [hrec]; exact hps x)
     rw [hrec] at hy
     obtain ⟨hbW,hbc⟩ := hW₁ x W
     have hl1 := (hbW.block _ hlt).trans hl
     have hk1 := (hbW.block _ (by omega : w.heap.size < W.heap.size)).trans hk
     have hs1 := hbW.size
     refine ⟨fn,_,assign,body,hy,roundIn_of_wpIn hfn (hassign _ k x W _ hel ⟨_,run_beginRound hl1 (by rw [hrec]), ?_⟩)⟩
     obtain ⟨Wb,hWb⟩ : ∃ Wb,Wb = (W₁ x W).putObj (w.heap.size + 1) (.loop { rec .ready none with state := .busy }) := ⟨_,rfl⟩
     have hl2 : Wb.heap[w.heap.size + 1]? = some (.loop { rec .ready none with state := .busy }) := by rw [hWb]; exact World.putObj_heap_same (by omega)
     have hk2 : Wb.heap[w.heap.size]? = some (.deferred (some [])) := by rw [hWb]; exact (World.putObj_heap_other (by omega)).trans hk1
     have hi2 : I k Wb := by rw [hWb]; exact hIp k _ (w.heap.size + 1) _ _ (hIa _ _ _ hi hbW) (by omega) hl1 rfl
     have he2 : El k x Wb := by rw [hWb]; exact hEl k x _ (w.heap.size + 1) _ _ (hElb _ _ _ _ hel hbW) (by omega) hl1 rfl
     have hw2 : Kp W Wb := by rw [hWb]; exact hKt (hKp (by omega) hbW) (hKb _ _ _ _ (by omega) hl1 rfl)
     have hs2 : (W₁ x W).heap.size = Wb.heap.size := by rw [hWb]; simp
     have hc2 : Wb.heap[W.heap.size]? = some (.cells (cs x) T (0,0)) := by rw [hWb]; exact (World.putObj_heap_other (by omega)).trans hbc
     rw [<- hWb]
     refine wpIn_mono (hbody _ k x W.heap.size Wb hi2 hlen he2 (by omega) hc2) ?_
     rintro e a3 W3 hp
     cases e with
     | normal =>
       obtain ⟨ht,hkp,hi3⟩ := hp
       have hl3 := ht.same _ _ (by omega) hl2 rfl
       have hk3 := ht.same _ _ (Nat.le_refl _) hk2 rfl
       have hsz3 := ht.size
       have hr := run_endRound (P := Tryz.prog) none hl3
       rw [hrec] at hr
       refine ⟨_,_,hr, .inl ⟨rfl,⟨hIp _ _ _ _ _ hi3 (by omega) hl3 rfl, ?_,(World.putObj_heap_other (by omega)).trans hk3⟩, ?_⟩⟩
       · rw [hrec]; exact World.putObj_heap_same (by omega)
       · exact hKt (hKt hw2 hkp) (hKb _ _ _ _ (by omega) hl3 rfl)
     | ret =>
       obtain ⟨ht,hi3⟩ := hp
       have hl3 := ht.same _ _ (by omega) hl2 rfl
       have hk3 := ht.same _ _ (Nat.le_refl _) hk2 rfl
       have hsz3 := ht.size
       have hr := run_endRound (P := Tryz.prog) (some .ret) hl3
       rw [hrec] at hr
       refine ⟨_,_,hr, .inr ⟨rfl,⟨hXp _ _ _ _ _ hi3 (by omega) hl3 rfl, ?_,(World.putObj_heap_other (by omega)).trans hk3⟩⟩⟩
       rw [hrec]; exact World.putObj_heap_same (by omega)
     | exit id => exact hp.elim
     | goto t => exact hp.elim
     | panic ch => exact hp.elim
     | outgrown => exact hp.elim
   · -- BEHIND THE ITERATOR
     rintro e W2 ⟨⟨v,rfl⟩,(⟨hi,hl,hk⟩ | ⟨k,hi,hl,hk⟩)⟩
     · exact ⟨none,_,by have := run_endLoop (P := Tryz.prog) hl (by rw [hrec]; simp); rw [hrec] at this; exact this,hdone _ _ (Nat.le_refl _) (hIp _ _ _ _ _ hi (by omega) hl rfl) ((World.putObj_heap_other (by omega)).trans hk)⟩
     · exact ⟨some .ret,_,by have := run_endLoop (P := Tryz.prog) hl (by rw [hrec]; simp); rw [hrec] at this; exact this,hstop _ k _ (Nat.le_refl _) (hXp _ _ _ _ _ hi (by omega) hl rfl) ((World.putObj_heap_other (by omega)).trans hk)⟩
end Go.Proofs
