/- The reference's shortening step. -/
import Derived.Test.YtmmbmhjdnlmedaaGreatSiCS24
import Derived.Test.YtmmbmhjdnlmedaaGreatSiCS16
namespace Go.Proofs
open Go.RowKit Go.Shelf Go.Lib Go.Sort Go.Proofs.Ct Go.Proofs.Tz Go.Maps
theorem turns_at0 {r : List Int} {m : Nat} (h : m < r.length) : (turnsW r).getD m [] = rot r m := by
 unfold turnsW
 rw [List.getD_eq_getElem?_getD,List.getElem?_append_left (by simpa using h)]
 simp [h]
theorem turns_at1 {r : List Int} {m : Nat} (h : m < (invW r).length) : (turnsW r).getD (r.length + m) [] = rot (invW r) m := by
 unfold turnsW
 rw [List.getD_eq_getElem?_getD,List.getElem?_append_right (by simp)]
 simp [h]
theorem turns_len2 {r : List Int} (h : (invW r).length = r.length) : (turnsW r).length = r.length * 2 := by
 unfold turnsW
 simp [h]
 omega
inductive SlH where
 | eq (v : Value) | ints (l : List Int) | sh (o : Option (List Int)) | shv (o : Option (List Int))
def SlH.holds : SlH -> Value -> World -> Prop
 | .eq u,v,_ => v = u
 | .ints l,v,w => ∃ A c,v = .slice A l.length c /\ IntsAt w v l
 | .sh o,v,w => (match o with
   | none => v = .tuple #[.slice none 0 0, .bool false]
   | some x => ∃ A c,v = .tuple #[.slice A x.length c, .bool true] /\ IntsAt w (.slice A x.length c) x)
 | .shv o,v,w => (match o with
   | none => v = .slice none 0 0
   | some x => ∃ A c,v = .slice A x.length c /\ IntsAt w (.slice A x.length c) x)
theorem SlH.keep {s : SlH} {v : Value} {w w' : World} (h : Below w.heap.size w w') : s.holds v w -> s.holds v w' := by
 cases s with
 | eq u => exact id
 | ints l => exact fun ⟨A,c,e,k⟩ => ⟨A,c,e,k.below h⟩
 | sh o =>
   cases o with
   | none => exact id
   | some x => exact fun ⟨A,c,e,k⟩ => ⟨A,c,e,k.below h⟩
 | shv o =>
   cases o with
   | none => exact id
   | some x => exact fun ⟨A,c,e,k⟩ => ⟨A,c,e,k.below h⟩
theorem build24_2 (z : Int) (A : Option Addr) (n c : Nat) (w : World) : (Instr.build 24 #[(0, .int .i64 z),(1, .slice A n c)]).run Tryz.prog w = .ok (.agg #[.int .i64 z, .slice A n c]) w := by kernel_rfl
theorem r_build24_2 {o : Oper} {a : Act} {w : World} (x y : Operand) (z : Int) (A : Option Addr) (n c : Nat) (ho : o.op = .build 24 #[(0,x),(1,y)]) (hx : a.eval x = .int .i64 z) (hy : a.eval y = .slice A n c) : (execOp a.eval o).run Tryz.prog w = .ok (.value (.agg #[.int .i64 z, .slice A n c])) w := by
 have hb := build24_2 z A n c w
 unfold execOp
 simp only [ho,List.map_toArray,List.map_cons,List.map_nil,hx,hy,Sem.run_bind,hb,Result.andThen_ok]
 rfl
theorem words_f2 {w : World} {A : Option Addr} {n c : Nat} {l : List (List Int)} (h : Tab w (.slice A n c) l) (hi : 0 < l.length) : ∃ b o,A = some ⟨b,o,none⟩ /\ ∀ W,Below w.heap.size w W -> ∀ i,i < l.length -> ∃ Au cu,W.cell? ⟨b,o + i,none⟩ = some (.slice Au (l.getD i []).length cu) /\ IntsAt W (.slice Au (l.getD i []).length cu) (l.getD i []) := by
 obtain ⟨A',c',e', -, -,hcc⟩ := LAt.open_ h
 obtain ⟨rfl,rfl,rfl⟩ := Value.slice.inj e'
 obtain ⟨b,o,rfl,hc⟩ := hcc (by omega)
 refine ⟨b,o,rfl,fun W hb i hi => ?_⟩
 obtain ⟨u,hu,hx⟩ := hc i hi
 obtain ⟨Au,cu,rfl, -, -, -⟩ := hx.open_
 exact ⟨Au,cu,(hb.cell (p := ⟨b,o + i,none⟩) (World.block_lt_of_cell? w _ hu)).trans hu,hx.below hb⟩
theorem idx22 (b o : Nat) (n c k : Nat) (hk : k < n) (w : World) : (Instr.indexAt 22 (.slice (some ⟨b,o,none⟩) n c) (.int .i64 (k : Int))).run Tryz.prog w = .ok (.pointer (some ⟨b,o + k,none⟩)) w :=
 idx_offs Tryz.underlying22 Tryz.sizeOf36 b o n c k hk w
theorem rot83_v (W : World) (u : Value) (v : List Int) (k : Nat) (h : IntsAt W u v) (hm : ∀ z ∈ v,Mild z) (hk : k <= v.length) (hl : v.length <= 4000000) : Calls Tryz.prog 83 #[u, .int .i64 (k : Int)] W fun e w'' => ∃ y,e = .returned y /\ ((SlH.ints (rot v k)).holds y w'' /\ Below W.heap.size W w'') :=
 (rotation83_any W u v k h hk hl).mono fun e w'' ⟨A,c,e1,h4,h5⟩ => ⟨_,e1,⟨A,c,by rw [length_rot v hk],OwnI.ints h4 (Mild.fits fun z hz => hm z (mem_rot hz))⟩,h5⟩
theorem short82_v (w : World) (us uw : Value) (s x : List Int) (hs : IntsAt w us s) (hx : IntsAt w uw x) (hms : ∀ z ∈ s,Mild z) (hmx : ∀ z ∈ x,Mild z) (hls : s.length <= 4000) (hlx : x.length <= 4000) (hx0 : 0 < x.length) : Calls Tryz.prog 82 #[us,uw] w fun e w'' => ∃ y,e = .returned y /\ ((SlH.sh (shortW s x)).holds y w'' /\ Below w.heap.size w w'') :=
 (shorter82_any w us uw s x hs hx hms hmx hls hlx hx0).mono fun e w'' ⟨h1,h2⟩ => by
   cases ho : shortW s x with
   | none => rw [ho] at h1; exact ⟨_,h1,rfl,h2⟩
   | some y =>
     rw [ho] at h1
     obtain ⟨A,c,e1,h3⟩ := h1
     exact ⟨_,e1,⟨A,c,rfl,h3⟩,h2⟩
theorem call82 (args : Array Value) (w : World) : (callFunc 82 args).run Tryz.prog w = .ok (.enter 82 args) w := enters_of Tryz.func82 (by kernel_rfl) rfl args w
theorem call83 (args : Array Value) (w : World) : (callFunc 83 args).run Tryz.prog w = .ok (.enter 83 args) w := enters_of Tryz.func83 (by kernel_rfl) rfl args w
theorem sh_ext {o : Option (List Int)} {v : Value} {w : World} (h : (SlH.sh o).holds v w) : ∃ u,v = .tuple #[u, .bool o.isSome] /\ (SlH.shv o).holds u w := by
 cases o with
 | none => exact ⟨_,h,rfl⟩
 | some x =>
   obtain ⟨A,c,e,k⟩ := h
   exact ⟨_,e,A,c,rfl,k⟩
def RShF (n : Nat) (vr : Value) (rels : List (List Int)) (w : World) (e : Ending) (w' : World) : Prop :=
 (match shortF rels with
 | none => e = .returned (.tuple #[.agg #[.int .i64 (n : Int),vr], .bool false])
 | some l => ∃ A c,e = .returned (.tuple #[.agg #[.int .i64 (n : Int), .slice A l.length c], .bool true]) /\ TabI w.heap.size w'.heap.size w' (.slice A l.length c) l) /\ Below w.heap.size w w'
set_option maxRecDepth 100000 in
set_option maxHeartbeats 4000000 in
theorem shorten42_any (w : World) (vr : Value) (n : Nat) (rels : List (List Int)) (hR : Tab w vr rels) (hC : Cln n rels) : Calls Tryz.prog 42 #[.agg #[.int .i64 (n : Int),vr]] w (RShF n vr rels w) := by
 obtain ⟨Ar,cr,rfl⟩ := Tab.form hR
 have HC := Lib.hid hC
 have HBN := Lib.hid (ElBox.new w n Ar cr rels.length)
 have HRR := Lib.hid hR
 have hrl0 : (0 : Int) <= (rels.length : Int) := Int.natCast_nonneg _
 have hrl1 : (rels.length : Int) <= 100 := by have := hC.many; omega
 have HW : Hid (∀ j,j < rels.length -> LOk n (rels.getD j []) /\ (rels.getD j []).length <= 4000 /\ 0 < (rels.getD j []).length /\ CyI (rels.getD j [])) := Lib.hid fun j hj => by
   have hm : rels.getD j [] ∈ rels := by rw [List.getD_eq_getElem?_getD,List.getElem?_eq_getElem hj]; exact List.getElem_mem hj
   exact ⟨hC.ok _ hm,Nat.le_trans (lenL_mem hm) hC.len,List.length_pos_iff.2 (hC.ne _ hm),hC.cy _ hm⟩
 clear hR hC
 go_enter Tryz.func42,Tryz.ntmps42
 go_wp2_with ((with_reducible refine wpList_sel 2 ?_); refine wpList_val rfl (r_alloc40 rfl) ?_)
 generalize hw0 : (w.alloc (.cells #[.int .i64 (n : Int), .slice Ar rels.length cr] 24)).alloc (.cells zero40 24) = w0 at *
 have HBX := Lib.hid fun W (hb : Below w0.heap.size w0 W) => HBN.out.at_ hb
 have HB0 := Lib.hid HBN.out.below
 have HWS := Lib.hid HBN.out.size
 have HR0 := Lib.hid (kept_tab.below HRR.out HB0.out)
 clear hw0 HRR HBN
 have HROW : Hid (0 < rels.length -> ∃ b o,Ar = some ⟨b,o,none⟩ /\ ∀ W,Below w0.heap.size w0 W -> ∀ i,i < rels.length -> ∃ Au cu,W.cell? ⟨b,o + i,none⟩ = some (.slice Au (rels.getD i []).length cu) /\ IntsAt W (.slice Au (rels.getD i []).length cu) (rels.getD i [])) := Lib.hid fun h0 => by
   obtain ⟨b,o,e,h⟩ := words_f2 HR0.out h0
   exact ⟨b,o,e,h⟩
 go_wp2_with fail
 go_loopw [3,4] (fun _ vi wr => ∃ i : Nat,vi = .int .i64 (i : Int) /\ i <= rels.length /\ Hid (Below w0.heap.size w0 wr /\ ∀ a k,a < i -> k < rels.length -> k ≠ a -> sh2 rels a k = none)) (fun _ vi _ => rels.length - (intOf vi).toNat)
 case atStart => exact ⟨0,rfl,Nat.zero_le _,Lib.hid ⟨Below.refl _ _,fun a k h => absurd h (Nat.not_lt_zero a)⟩⟩
 case round =>
   obtain ⟨i,rfl,hi,HI⟩ := hrel
   have hi0 : (0 : Int) <= (i : Int) := Int.natCast_nonneg _
   obtain ⟨⟨x0,x1⟩, -,x2⟩ := HBX.out wr HI.out.1
   by_cases hil : i < rels.length
   · have hil' : (i : Int) < (rels.length : Int) := by omega
     obtain ⟨b,o,rfl,hrow⟩ := HROW.out (by omega)
     have HROW2 := Lib.hid hrow
     clear hrow HROW x2
     obtain ⟨wi,hwi⟩ : ∃ wi,wi = wr := ⟨_,rfl⟩
     rw [<- hwi] at HI x0 x1 ⊢
     clear hwi
     go_wp2_with fail
     clear x0 x1
     go_loopw [3,5] (fun _ vk wr => ∃ k : Nat,vk = .int .i64 (k : Int) /\ k <= rels.length /\ Hid (Below w0.heap.size w0 wr /\ ∀ j,j < k -> j ≠ i -> sh2 rels i j = none)) (fun _ vk _ => rels.length - (intOf vk).toNat)
     case atStart => exact ⟨0,rfl,Nat.zero_le _,Lib.hid ⟨HI.out.1,fun j h => absurd h (Nat.not_lt_zero j)⟩⟩
     case round =>
       obtain ⟨k,rfl,hk,HK⟩ := hrel
       have hk0 : (0 : Int) <= (k : Int) := Int.natCast_nonneg _
       obtain ⟨⟨x0,x1⟩, -, -⟩ := HBX.out wr HK.out.1
       by_cases hkl : k < rels.length
       · have hkl' : (k : Int) < (rels.length : Int) := by omega
         by_cases hik : i = k
         · have e1 : ((i : Int) == (k : Int)) = true := by rw [hik]; simp
           have HKE := Lib.hid hik
           clear hik
           go_wp2_with fail
           go_roundw
           case rel => exact ⟨k + 1,by go_num,by omega,Lib.hid ⟨HK.out.1,fun j hj hne => HK.out.2 j (by have := HKE.out; omega) hne⟩⟩
           case measure => simp [intOf]; omega
         · have e1 : ((i : Int) == (k : Int)) = false := beq_eq_false_iff_ne.2 (by omega)
           have HNE : Hid (k ≠ i) := Lib.hid fun h => hik h.symm
           clear hik
           obtain ⟨Ai,ci,x5,hvi⟩ := HROW2.out wr HK.out.1 i hil
           obtain ⟨wk,hwk⟩ : ∃ wk,wk = wr := ⟨_,rfl⟩
           rw [<- hwk] at HK x0 x1 x5 hvi ⊢
           clear hwk
           obtain ⟨hri1,hri2,hri3,hri4⟩ := HW.out i hil
           have HIL : Hid ((invW (rels.getD i [])).length = (rels.getD i []).length) := Lib.hid (by rw [hri4.invW]; exact length_inv _)
           have HRI : Hid ((∀ z ∈ rels.getD i [],Mild z) /\ LOk n (rels.getD i []) /\ CyI (rels.getD i [])) := Lib.hid ⟨mild_ok (by have := HC.out.n16; omega) hri1,hri1,hri4⟩
           have HVI := Lib.hid hvi
           obtain ⟨lr,hlr⟩ : ∃ lr,lr = (rels.getD i []).length := ⟨_,rfl⟩
           have HLR := Lib.hid hlr
           rw [<- hlr] at HIL x5 hri2 hri3
           have hlr1 : (lr : Int) <= 4000 := by omega
           have hlr0 : (0 : Int) < (lr : Int) := by omega
           clear hlr hvi hri1 hri4
           go_wp2_with fail
           clear x0 x1 x5
           go_loopw [3,6,7] (fun _ v6 vs wr => ∃ (s : Nat) (R : List Int) (A : Option Addr) (c : Nat),vs = .int .i64 (s : Int) /\ s <= 2 /\ v6 = .slice A R.length c /\ Hid (Below w0.heap.size w0 wr /\ IntsAt wr (.slice A R.length c) R /\ ((∀ z ∈ R,Mild z) /\ R.length <= 4000) /\ (s = 0 -> R = rels.getD i []) /\ (s = 1 -> R = invW (rels.getD i [])) /\ ∀ m,m < lr * s -> shortW (rels.getD k []) ((turnsW (rels.getD i [])).getD m []) = none)) (fun _ _ vs _ => 2 - (intOf vs).toNat)
           case atStart => exact ⟨0,rels.getD i [],Ai,ci,rfl,by omega,by rw [<- HLR.out],Lib.hid ⟨HK.out.1,HVI.out,⟨HRI.out.1,by rw [<- HLR.out]; exact hri2⟩,fun _ => rfl,fun h => absurd h (by decide),fun m h => absurd h (by simp)⟩⟩
           case round =>
             obtain ⟨s,R,A,c,rfl,hs,rfl,HS⟩ := hrel
             have hs0 : (0 : Int) <= (s : Int) := Int.natCast_nonneg _
             by_cases hs2 : s < 2
             · have hs2' : (s : Int) < 2 := by omega
               have HRL : Hid (R.length = lr) := Lib.hid (by
                 have : s = 0 \/ s = 1 := by omega
                 rcases this with h | h
                 · rw [HS.out.2.2.2.1 h]; exact HLR.out.symm
                 · rw [HS.out.2.2.2.2.1 h]; exact HIL.out)
               have HTN : Hid (∀ m,m < lr -> (turnsW (rels.getD i [])).getD (lr * s + m) [] = rot R m /\ lr * s + m < (turnsW (rels.getD i [])).length /\ LOk n (rot R m)) := Lib.hid fun m hm => by
                 have hlen : (turnsW (rels.getD i [])).length = lr * 2 := by rw [turns_len2 (by rw [HIL.out]; exact HLR.out), <- HLR.out]
                 have : s = 0 \/ s = 1 := by omega
                 have e : (turnsW (rels.getD i [])).getD (lr * s + m) [] = rot R m := by
                   rcases this with rfl | rfl
                   · rw [HS.out.2.2.2.1 rfl,Nat.mul_zero,Nat.zero_add]
                     exact turns_at0 (by rw [<- HLR.out]; exact hm)
                   · rw [HS.out.2.2.2.2.1 rfl,Nat.mul_one]
                     have := turns_at1 (r := rels.getD i []) (m := m) (by rw [HIL.out]; exact hm)
                     rw [<- HLR.out] at this
                     exact this
                 have hl : lr * s + m < (turnsW (rels.getD i [])).length := by
                   rw [hlen]
                   rcases this with rfl | rfl <;> omega
                 refine ⟨e,hl, ?_⟩
                 rw [<- e]
                 have hm2 : (turnsW (rels.getD i [])).getD (lr * s + m) [] ∈ turnsW (rels.getD i []) := getD_mem' hl
                 exact (turns_mem HRI.out.2.2 hm2).2.2 n HRI.out.2.1
               rw [HRL.out] at HS ⊢
               obtain ⟨wz,hwz⟩ : ∃ wz,wz = wr := ⟨_,rfl⟩
               rw [<- hwz] at HS ⊢
               clear hwz
               go_wp2_with fail
               go_loopw [3,8] (fun _ vm wr => ∃ m : Nat,vm = .int .i64 (m : Int) /\ m <= lr /\ Hid (Below w0.heap.size w0 wr /\ IntsAt wr (.slice A lr c) R /\ ∀ j,j < lr * s + m -> shortW (rels.getD k []) ((turnsW (rels.getD i [])).getD j []) = none)) (fun _ vm _ => lr - (intOf vm).toNat)
               case atStart => exact ⟨0,rfl,Nat.zero_le _,Lib.hid ⟨HS.out.1,HS.out.2.1,HS.out.2.2.2.2.2⟩⟩
               case round =>
                 obtain ⟨m,rfl,hm,HM⟩ := hrel
                 have hm0 : (0 : Int) <= (m : Int) := Int.natCast_nonneg _
                 by_cases hml : m < lr
                 · have hml' : (m : Int) < (lr : Int) := by omega
                   obtain ⟨Ak,ck, -,hvk⟩ := HROW2.out wr HM.out.1 k hkl
                   obtain ⟨hrk1,hrk2,hrk3, -⟩ := HW.out k hkl
                   obtain ⟨tn1,tn2,tn3⟩ := HTN.out m hml
                   have HT1 := Lib.hid tn1
                   have HT2 := Lib.hid tn2
                   have HT3 := Lib.hid tn3
                   have HK4 : Hid ((∀ z ∈ rels.getD k [],Mild z) /\ (rels.getD k []).length <= 4000) := Lib.hid ⟨mild_ok (by have := HC.out.n16; omega) hrk1,hrk2⟩
                   have HKO := Lib.hid hrk1
                   have HROTL : Hid ((rot R m).length = lr) := Lib.hid (by rw [length_rot R (by rw [HRL.out]; omega)]; exact HRL.out)
                   have HMR : Hid (∀ z ∈ rot R m,Mild z) := Lib.hid fun z hz => HS.out.2.2.1.1 z (mem_rot hz)
                   have HPX : Hid (∀ W,Below wr.heap.size wr W -> (W.cell? ⟨w.heap.size,0,none⟩ = some (.int .i64 (n : Int)) /\ W.cell? ⟨w.heap.size,1,none⟩ = some (.slice (some ⟨b,o,none⟩) rels.length cr)) /\ W.heap[w.heap.size + 1]? = some (.cells zero40 24 (0,0)) /\ Below w0.heap.size w0 W) := Lib.hid fun W h => by
                     have h2 := HM.out.1.trans (h.mono HM.out.1.size)
                     obtain ⟨q1, -,q2⟩ := HBX.out W h2
                     exact ⟨q1,q2,h2⟩
                   have HROK : Hid (∀ W,Below wr.heap.size wr W -> ∃ Au cu,W.cell? ⟨b,o + k,none⟩ = some (.slice Au (rels.getD k []).length cu) /\ IntsAt W (.slice Au (rels.getD k []).length cu) (rels.getD k [])) := Lib.hid fun W h => HROW2.out W (HPX.out W h).2.2 k hkl
                   have hkw : (k : Int) <= 100 := by omega
                   clear hvk hrk1 hrk2 hrk3 tn1 tn2 tn3
                   obtain ⟨O,hO⟩ : ∃ O,O = shortW (rels.getD k []) (rot R m) := ⟨_,rfl⟩
                   have HO := Lib.hid hO
                   clear hO
                   go_upto_region 15 with fail
                   refine (wpIn_wide (n := 3)).1 ?_
                   refine wpIn_region_all (by kernel_rfl) 14 rfl (fun i => if i < 9 then some (45 + i) else if i = 9 then some 44 else if i < 12 then some (44 + i) else some (i - 3)) (lex_of (by kernel_rfl)) (fun _ W => Below wr.heap.size wr W)
                     (fun i v W => (([.eq (.pointer (some ⟨w.heap.size,1,none⟩)), .eq (.slice (some ⟨b,o,none⟩) rels.length cr), .eq (.int .i64 (k : Int)), .eq (.pointer (some ⟨b,o + k,none⟩)), .ints (rels.getD k []), .eq (.slice A lr c), .eq (.int .i64 (m : Int)), .ints (rot R m), .sh O, .sh O, .shv O, .eq (.bool O.isSome), .shv O, .eq (.bool O.isSome)] : List SlH).getD i (.eq undef)).holds v W)
                     (fun _ W W' => Below W.heap.size W W') (dm_inj (by kernel_rfl)) (fun i j v W W' _ _ _ h => SlH.keep h) (dm_lt (n := 79) (by kernel_rfl)) (Below.refl _ _).drew ?_ ?_
                   · intro ls q o' a w4 hq ho hS hls hcl hP hpre
                     have hcases : q = 0 \/ q = 1 \/ q = 2 \/ q = 3 \/ q = 4 \/ q = 5 \/ q = 6 \/ q = 7 \/ q = 8 \/ q = 9 \/ q = 10 \/ q = 11 \/ q = 12 \/ q = 13 := by
                       have : q < 14 := hq
                       omega
                     rcases hcases with rfl | rfl | rfl | rfl | rfl | rfl | rfl | rfl | rfl | rfl | rfl | rfl | rfl | rfl
                     · obtain rfl := Option.some.inj ho
                       exact wpOpIn_of rfl rfl (wpW_val (r_fld (.tmp 1) _ rfl (hP.out 1 (dm_out (by kernel_rfl))) (fld27_1 w.heap.size _)) ⟨_,rfl,hS,Below.refl _ _,(fun h => by simp at h),rfl⟩)
                     · obtain rfl := Option.some.inj ho
                       exact wpOpIn_of rfl rfl (wpW_val (r_ld25 (.tmp 45) ⟨w.heap.size,1,none⟩ rfl (hpre ⟨0, .data⟩ (by simp) rfl).2 (HPX.out _ hS).1.2) ⟨_,rfl,hS,Below.refl _ _,(fun h => by simp at h),rfl⟩)
                     · obtain rfl := Option.some.inj ho
                       exact wpOpIn_of rfl rfl (wpW_val (r_move (.tmp 5) rfl (hP.out 5 (dm_out (by kernel_rfl)))) ⟨_,rfl,hS,Below.refl _ _,(fun h => by simp at h),rfl⟩)
                     · obtain rfl := Option.some.inj ho
                       exact wpOpIn_of rfl rfl (wpW_val (r_idx (.tmp 46) (.tmp 47) _ _ rfl (hpre ⟨1, .data⟩ (by simp) rfl).2 (hpre ⟨2, .data⟩ (by simp) rfl).2 (idx22 b o rels.length cr k hkl _)) ⟨_,rfl,hS,Below.refl _ _,(fun h => by simp at h),rfl⟩)
                     · obtain rfl := Option.some.inj ho
                       obtain ⟨Au,cu,hcu,hiu⟩ := HROK.out w4 hS
                       exact wpOpIn_of rfl rfl (wpW_val (r_ld24 (.tmp 48) ⟨b,o + k,none⟩ rfl (hpre ⟨3, .data⟩ (by simp) rfl).2 hcu) ⟨_,rfl,hS,Below.refl _ _,(fun h => by simp at h),⟨Au,cu,rfl,hiu⟩⟩)
                     · obtain rfl := Option.some.inj ho
                       exact wpOpIn_of rfl rfl (wpW_val (r_move (.tmp 6) rfl (hP.out 6 (dm_out (by kernel_rfl)))) ⟨_,rfl,hS,Below.refl _ _,(fun h => by simp at h),rfl⟩)
                     · obtain rfl := Option.some.inj ho
                       exact wpOpIn_of rfl rfl (wpW_val (r_move (.tmp 8) rfl (hP.out 8 (dm_out (by kernel_rfl)))) ⟨_,rfl,hS,Below.refl _ _,(fun h => by simp at h),rfl⟩)
                     · obtain rfl := Option.some.inj ho
                       exact wpOpIn_of rfl rfl (wpW_call (r_call2 (.tmp 50) (.tmp 51) _ _ _ rfl (hpre ⟨5, .data⟩ (by simp) rfl).2 (hpre ⟨6, .data⟩ (by simp) rfl).2 call83) (rot83_v w4 _ R m (HM.out.2.1.below hS) HS.out.2.2.1.1 (by rw [HRL.out]; omega) (by rw [HRL.out]; omega)) fun v w5 hR => ⟨v,rfl,hS.trans (hR.2.mono hS.size),hR.2,(fun h => by simp at h),hR.1⟩)
                     · obtain rfl := Option.some.inj ho
                       obtain ⟨B1,d1,e1,g1⟩ := (hpre ⟨4, .data⟩ (by simp) rfl).2
                       obtain ⟨B2,d2,e2,g2⟩ := (hpre ⟨7, .data⟩ (by simp) rfl).2
                       exact wpOpIn_of rfl rfl (wpW_call (r_call2 (.tmp 49) (.tmp 52) _ _ _ rfl rfl rfl call82) (short82_v w4 _ _ _ _ g1 g2 HK4.out.1 HMR.out HK4.out.2 (by rw [HROTL.out]; omega) (by rw [HROTL.out]; omega)) fun v w5 hR => ⟨v,rfl,hS.trans (hR.2.mono hS.size),hR.2,(fun h => by simp at h),by rw [HO.out]; exact hR.1⟩)
                     · obtain rfl := Option.some.inj ho
                       exact wpOpIn_of rfl rfl (wpW_val (r_move (.tmp 53) rfl rfl) ⟨_,rfl,hS,Below.refl _ _,(fun h => by simp at h),(hpre ⟨8, .data⟩ (by simp) rfl).2⟩)
                     · obtain rfl := Option.some.inj ho
                       obtain ⟨u9,e9,k9⟩ := sh_ext (hpre ⟨9, .data⟩ (by simp) rfl).2
                       exact wpOpIn_of rfl rfl (wpW_val (r_extract 0 (.tmp 44) _ rfl e9 rfl) ⟨_,rfl,hS,Below.refl _ _,(fun h => by simp at h),k9⟩)
                     · obtain rfl := Option.some.inj ho
                       obtain ⟨u9,e9,k9⟩ := sh_ext (hpre ⟨9, .data⟩ (by simp) rfl).2
                       exact wpOpIn_of rfl rfl (wpW_val (r_extract 1 (.tmp 44) _ rfl e9 rfl) ⟨_,rfl,hS,Below.refl _ _,(fun h => by simp at h),rfl⟩)
                     · obtain rfl := Option.some.inj ho
                       exact wpOpIn_of rfl rfl (wpW_val (r_assign (.tmp 54) rfl rfl) ⟨_,rfl,hS,Below.refl _ _,(fun h => by simp at h),(hpre ⟨10, .data⟩ (by simp) rfl).2⟩)
                     · obtain rfl := Option.some.inj ho
                       exact wpOpIn_of rfl rfl (wpW_val (r_assign (.tmp 55) rfl rfl) ⟨_,rfl,hS,Below.refl _ _,(fun h => by simp at h),(hpre ⟨11, .data⟩ (by simp) rfl).2⟩)
                   · intro ls a w4 hall hS hP hsl
                     have h9 := hsl 12 (by decide)
                     have h10 : slotv a (some 10) = .bool O.isSome := hsl 13 (by decide)
                     obtain ⟨vs,hvs,hfr⟩ := hP.frame 79 rfl
                     have e10 : vs 10 = .bool O.isSome := (hvs 10).trans h10
                     have e9 : vs 9 = slotv a (some 9) := hvs 9
                     have h9' : (SlH.shv O).holds (vs 9) w4 := by rw [e9]; exact h9
                     have H9 := Lib.hid h9'
                     have HB4 := Lib.hid hS
                     clear hsl hP hall hvs h9 h9' h10 e9 hS
                     subst hfr
                     simp only [List.range,List.range.loop,List.map_cons,List.map_nil,List.any_cons,List.any_nil,Nat.reduceAdd,Nat.reduceBEq,Nat.reduceLT,Option.some_beq_some,Bool.or_false,if_true,if_false,List.getD_cons_zero,List.getD_cons_succ,Bool.or_true,Bool.false_eq_true,Nat.reduceEqDiff,Nat.reduceSub]
                     rw [e10]
                     clear e10
                     cases O with
                     | none =>
                       have HNO : Hid (shortW (rels.getD k []) ((turnsW (rels.getD i [])).getD (lr * s + m) []) = none) := Lib.hid (by rw [HT1.out]; exact HO.out.symm)
                       have HM2 : Hid (Below w0.heap.size w0 w4 /\ IntsAt w4 (.slice A lr c) R) := Lib.hid ⟨(HPX.out w4 HB4.out).2.2,HM.out.2.1.below HB4.out⟩
                       rw [show (none : Option (List Int)).isSome = false from rfl]
                       generalize vs 9 = v9 at *
                       go_wp2_with fail
                       go_roundw
                       case rel => exact ⟨m + 1,by go_num,by omega,Lib.hid ⟨HM2.out.1,HM2.out.2,fun j hj => by
                         rcases Nat.lt_succ_iff_lt_or_eq.1 (show j < lr * s + m + 1 by omega) with h | h
                         · exact HM.out.2.2 j h
                         · rw [h]; exact HNO.out⟩⟩
                       case measure => simp [intOf]; omega
                     | some x =>
                       obtain ⟨A9,c9,e9,h9⟩ := H9.out
                       rw [e9,show (some x).isSome = true from rfl]
                       have HX9 := Lib.hid h9
                       have HSH : Hid (shortF rels = some (cleanL (rels.set k x))) := Lib.hid (shortF_at HI.out.2 HK.out.2 hil hkl HNE.out (sh2_at (m := lr * s + m) HM.out.2.2 HT2.out (by rw [HT1.out]; exact HO.out.symm)))
                       obtain ⟨hxl,hxok⟩ := Tz.shortW_some (fun e => by have := HROTL.out; rw [e] at this; simp at this; omega) HO.out.symm
                       have hxk : LOk n x := hxok _ HKO.out HT3.out
                       have HPE : Hid (presE (n : Int) (rels.set k x) = 0) := Lib.hid (by
                         refine presE_of ⟨HC.out.n1,HC.out.n16⟩ (by rw [List.length_set]; exact HC.out.many) (fun z hz => ?_) (Nat.le_trans (lenL_set _ _ _ (by omega)) HC.out.len)
                         rcases List.mem_or_eq_of_mem_set hz with h | rfl
                         · exact HC.out.ok _ h
                         · exact hxk)
                       obtain ⟨hp0,hp2,hp3⟩ := HPX.out w4 HB4.out
                       have HPB4 : Hid (∀ W,Below w4.heap.size w4 W -> W.cell? ⟨w.heap.size,0,none⟩ = some (.int .i64 (n : Int)) /\ W.cell? ⟨w.heap.size,1,none⟩ = some (.slice (some ⟨b,o,none⟩) rels.length cr)) := Lib.hid fun W h => (HPX.out W (HB4.out.trans (h.mono HB4.out.size))).1
                       have HX4 := Lib.hid hp2
                       have HB04 := Lib.hid hp3
                       obtain ⟨vs0,hv1,hv2⟩ := TabS.of_tab (kept_tab.below HR0.out hp3)
                       have HVS0 := Lib.hid hv1
                       have HVR0 := Lib.hid hv2
                       have HVL0 : Hid (vs0.length = rels.length) := Lib.hid hv2.1
                       have HVO0 : Hid (∀ y ∈ vs0,y.oneCell' = true) := Lib.hid (one_of_rows hv2)
                       clear h9 e9 H9 hxl hxok hxk hp0 hp2 hp3 hv1 hv2
                       generalize vs 9 = v9 at *
                       go_upto_region 17 with fail
                       refine (wpIn_wide (n := 3)).1 ?_
                       refine wpIn_region_act (by kernel_rfl) 9 rfl (fun i => if i < 7 then some (58 + i) else if i = 7 then some 11 else none) (lex_of (by kernel_rfl))
                         (fun ls a W => Below w4.heap.size w4 W /\
                               (ls 2 = true -> ls 5 = false -> ∃ b,slotv a (some 60) = .slice (some ⟨b,0,none⟩) 0 0 /\ w4.heap.size <= b /\ W.heap[b]? = some (.cells #[] 36 (0,0))) /\
                               (ls 5 = true -> ∃ A1 c1,slotv a (some 63) = .slice A1 rels.length c1 /\ W.ownsRow w4.heap.size 36 1 (.slice A1 rels.length c1) rels.length vs0) /\
                               (ls 7 = true -> ls 8 = false -> ∃ q,slotv a (some 11) = .pointer (some ⟨q,0,none⟩) /\ w4.heap.size <= q /\ W.heap[q]? = some (.cells zero40 24 (0,0))) /\
                               (ls 6 = true -> slotv a (some 64) = .agg #[.int .i64 (n : Int),slotv a (some 63)]) /\
                               (ls 8 = true -> ∃ q A1 c1,slotv a (some 11) = .pointer (some ⟨q,0,none⟩) /\ slotv a (some 63) = .slice A1 rels.length c1 /\ w4.heap.size <= q /\ W.heap[q]? = some (.cells #[.int .i64 (n : Int), .slice A1 rels.length c1] 24 (0,0))))
                         (fun i v _ => i = 2 \/ i = 5 \/ i = 6 \/ i = 7 \/ v = ([.pointer (some ⟨w.heap.size,0,none⟩), .int .i64 (n : Int),undef, .pointer (some ⟨w.heap.size,1,none⟩), .slice (some ⟨b,o,none⟩) rels.length cr,undef,undef,undef,undef] : List Value).getD i undef)
                         (fun _ _ _ => True) (dm_inj (by kernel_rfl)) (fun _ _ _ _ _ _ _ _ _ h => h) (dm_lt (n := 79) (by kernel_rfl)) ?_ ?_ ?_
                       · exact ⟨(Below.refl w4.heap.size w4).drew,fun h => by simp at h,fun h => by simp at h,fun h => by simp at h,fun h => by simp at h,fun h => by simp at h⟩
                       · intro ls q o' a w6 hq ho hS hls hcl hP hpre
                         obtain ⟨hS1,hS2,hS3,hS4,hS5,hS6⟩ := hS
                         have hcases : q = 0 \/ q = 1 \/ q = 2 \/ q = 3 \/ q = 4 \/ q = 5 \/ q = 6 \/ q = 7 \/ q = 8 := by
                           have : q < 9 := hq
                           omega
                         have hasz : a.tmps.size = 79 := hP.size
                         have hz6 : w4.heap.size <= w6.heap.size := hS1.size
                         have hkp : ∀ (q t : Nat) (v : Value),q ≠ 2 -> q ≠ 5 -> q ≠ 6 -> q ≠ 7 -> q ≠ 8 -> t ≠ 60 -> t ≠ 63 -> t ≠ 64 -> t ≠ 11 -> (Below w4.heap.size w4 w6 /\
                               ((fun j => if q = j then true else ls j) 2 = true -> (fun j => if q = j then true else ls j) 5 = false -> ∃ b,slotv (a.put (some t) v) (some 60) = .slice (some ⟨b,0,none⟩) 0 0 /\ w4.heap.size <= b /\ w6.heap[b]? = some (.cells #[] 36 (0,0))) /\
                               ((fun j => if q = j then true else ls j) 5 = true -> ∃ A1 c1,slotv (a.put (some t) v) (some 63) = .slice A1 rels.length c1 /\ w6.ownsRow w4.heap.size 36 1 (.slice A1 rels.length c1) rels.length vs0) /\
                               ((fun j => if q = j then true else ls j) 7 = true -> (fun j => if q = j then true else ls j) 8 = false -> ∃ q,slotv (a.put (some t) v) (some 11) = .pointer (some ⟨q,0,none⟩) /\ w4.heap.size <= q /\ w6.heap[q]? = some (.cells zero40 24 (0,0))) /\
                               ((fun j => if q = j then true else ls j) 6 = true -> slotv (a.put (some t) v) (some 64) = .agg #[.int .i64 (n : Int),slotv (a.put (some t) v) (some 63)]) /\
                               ((fun j => if q = j then true else ls j) 8 = true -> ∃ q A1 c1,slotv (a.put (some t) v) (some 11) = .pointer (some ⟨q,0,none⟩) /\ slotv (a.put (some t) v) (some 63) = .slice A1 rels.length c1 /\ w4.heap.size <= q /\ w6.heap[q]? = some (.cells #[.int .i64 (n : Int), .slice A1 rels.length c1] 24 (0,0)))) := fun q t v h0 h1 h2 h3 h4 h5 h6 h7 h8 => by
                           simp only [if_neg h0,if_neg h1,if_neg h2,if_neg h3,if_neg h4,slotv_put_ne h5,slotv_put_ne h6,slotv_put_ne h7,slotv_put_ne h8]
                           exact ⟨hS1,hS2,hS3,hS4,hS5,hS6⟩
                         have hal : ∀ o : Obj,Below w6.heap.size w6 (w6.alloc o) := fun o => (Below.refl _ _).alloc (Nat.le_refl _) _
                         rcases hcases with rfl | rfl | rfl | rfl | rfl | rfl | rfl | rfl | rfl
                         · obtain rfl := Option.some.inj ho
                           exact wpOpIn_of rfl rfl (wpW_val (r_fld (.tmp 1) _ rfl (hP.out 1 (dm_out (by kernel_rfl))) (fld27_0 w.heap.size _)) ⟨_,rfl,hkp 0 58 _ (by decide) (by decide) (by decide) (by decide) (by decide) (by decide) (by decide) (by decide) (by decide),trivial,(fun h => by simp at h), .inr (.inr (.inr (.inr (rfl))))⟩)
                         · obtain rfl := Option.some.inj ho
                           exact wpOpIn_of rfl rfl (wpW_val (r_load1 3 agg3 (.tmp 58) ⟨w.heap.size,0,none⟩ rfl (show slotv a (some 58) = .pointer (some ⟨w.heap.size,0,none⟩) from by have h := (hpre ⟨0, .data⟩ (by simp) rfl).2; simpa using h) (HPB4.out w6 hS1).1) ⟨_,rfl,hkp 1 59 _ (by decide) (by decide) (by decide) (by decide) (by decide) (by decide) (by decide) (by decide) (by decide),trivial,(fun h => by simp at h), .inr (.inr (.inr (.inr (rfl))))⟩)
                         · obtain rfl := Option.some.inj ho
                           have n5 := not_yet hcl 5 rfl ⟨2, .data⟩ (by simp) rfl hls
                           have n6 := not_yet hcl 6 rfl ⟨5, .data⟩ (by simp) rfl n5
                           have n8 := not_yet hcl 8 rfl ⟨6, .data⟩ (by simp) rfl n6
                           refine wpOpIn_of rfl rfl (wpW_val (r_bs22e rfl) ⟨_,rfl,⟨?_, ?_, ?_, ?_, ?_, ?_⟩,trivial,(fun h => by simp at h), .inl rfl⟩)
                           · exact hS1.trans ((hal _).mono hz6)
                           · intro _ _; exact ⟨w6.heap.size,slotv_same (by rw [hasz]; decide),hz6,heap_alloc_new w6 _⟩
                           · intro h; simp [n5] at h
                           · intro h h'; obtain ⟨q2,e1,hb,hB⟩ := hS4 (by simpa using h) (by simpa using h')
                             exact ⟨q2,(slotv_put_ne (a := a) (s := 60) (t := 11) (by decide)).trans e1,hb,((hal _).block q2 (Array.getElem?_eq_some_iff.1 hB).1).trans hB⟩
                           · intro h; simp [n6] at h
                           · intro h; simp [n8] at h
                         · obtain rfl := Option.some.inj ho
                           exact wpOpIn_of rfl rfl (wpW_val (r_fld (.tmp 1) _ rfl (hP.out 1 (dm_out (by kernel_rfl))) (fld27_1 w.heap.size _)) ⟨_,rfl,hkp 3 61 _ (by decide) (by decide) (by decide) (by decide) (by decide) (by decide) (by decide) (by decide) (by decide),trivial,(fun h => by simp at h), .inr (.inr (.inr (.inr (rfl))))⟩)
                         · obtain rfl := Option.some.inj ho
                           exact wpOpIn_of rfl rfl (wpW_val (r_ld25 (.tmp 61) ⟨w.heap.size,1,none⟩ rfl (show slotv a (some 61) = .pointer (some ⟨w.heap.size,1,none⟩) from by have h := (hpre ⟨3, .data⟩ (by simp) rfl).2; simpa using h) (HPB4.out w6 hS1).2) ⟨_,rfl,hkp 4 62 _ (by decide) (by decide) (by decide) (by decide) (by decide) (by decide) (by decide) (by decide) (by decide),trivial,(fun h => by simp at h), .inr (.inr (.inr (.inr (rfl))))⟩)
                         · obtain rfl := Option.some.inj ho
                           have n6 := not_yet hcl 6 rfl ⟨5, .data⟩ (by simp) rfl hls
                           have n8 := not_yet hcl 8 rfl ⟨6, .data⟩ (by simp) rfl n6
                           have h2 := (hpre ⟨2, .data⟩ (by simp) rfl).1
                           obtain ⟨b2,e0,hb2,hB2⟩ := hS2 h2 hls
                           have hsl6 := HVS0.out w6 (Ag.below hS1 fun k hk => hk)
                           obtain ⟨A',c',w7,hrun,ho7,hg7, -⟩ := run_app (ty := 22) Tryz.underlying22 info25p rfl (by omega) w6 w4.heap.size _ 0 [] (own_empty36 hb2 hB2) _ vs0 hsl6 HVO0.out (by omega) (by have := HVL0.out; have := HC.out.many; omega) hz6
                           rw [HVL0.out,Nat.zero_add,List.nil_append] at ho7
                           rw [HVL0.out,Nat.zero_add] at hrun
                           have hgb : ∀ r,(Value.slice (some ⟨b2,0,none⟩) 0 0).ownBlock = some r -> r = b2 := fun r hr => by cases hr; rfl
                           refine wpOpIn_of rfl rfl (wpW_val (r_app (.tmp 60) (.tmp 62) 22 rfl e0 (show slotv a (some 62) = .slice (some ⟨b,o,none⟩) rels.length cr from by have h := (hpre ⟨4, .data⟩ (by simp) rfl).2; simpa using h) hrun) ⟨_,rfl,⟨?_, ?_, ?_, ?_, ?_, ?_⟩,trivial,(fun h => by simp at h), .inr (.inl rfl)⟩)
                           · exact ⟨hg7.os.trans hS1.os,hg7.tape.trans hS1.tape,hg7.output.trans hS1.output,Nat.le_trans hS1.size hg7.size,fun q hq => (hg7.block q (Nat.lt_of_lt_of_le hq hS1.size) fun e => by have := hgb q e.symm; omega).trans (hS1.block q hq)⟩
                           · intro _ h'; simp at h'
                           · intro _; exact ⟨A',c',slotv_same (by rw [hasz]; decide),ho7⟩
                           · intro h h'; obtain ⟨q2,e1,hb,hB⟩ := hS4 (by simpa using h) (by simpa using h')
                             refine ⟨q2,(slotv_put_ne (a := a) (s := 63) (t := 11) (by decide)).trans e1,hb,(hg7.block q2 (Array.getElem?_eq_some_iff.1 hB).1 fun e => ?_).trans hB⟩
                             have := hgb q2 e.symm
                             subst this
                             rw [hB2] at hB
                             simp at hB
                           · intro h; simp [n6] at h
                           · intro h; simp [n8] at h
                         · obtain rfl := Option.some.inj ho
                           have n8 := not_yet hcl 8 rfl ⟨6, .data⟩ (by simp) rfl hls
                           have h5 := (hpre ⟨5, .data⟩ (by simp) rfl).1
                           obtain ⟨A1,c1,e3,ho3⟩ := hS3 h5
                           refine wpOpIn_of rfl rfl (wpW_val (r_build24_2 (.tmp 59) (.tmp 63) (n : Int) A1 rels.length c1 rfl (show slotv a (some 59) = .int .i64 (n : Int) from by have h := (hpre ⟨1, .data⟩ (by simp) rfl).2; simpa using h) e3) ⟨_,rfl,⟨?_, ?_, ?_, ?_, ?_, ?_⟩,trivial,(fun h => by simp at h), .inr (.inr (.inl rfl))⟩)
                           · exact hS1
                           · intro _ h'; simp [h5] at h'
                           · intro _; exact ⟨A1,c1,(slotv_put_ne (a := a) (s := 64) (t := 63) (by decide)).trans e3,ho3⟩
                           · intro h h'; obtain ⟨q2,e1,hb,hB⟩ := hS4 (by simpa using h) (by simpa using h')
                             exact ⟨q2,(slotv_put_ne (a := a) (s := 64) (t := 11) (by decide)).trans e1,hb,hB⟩
                           · intro _
                             have q1 := slotv_same (a := a) (t := 64) (v := .agg #[.int .i64 (n : Int), .slice A1 rels.length c1]) (by rw [hasz]; decide)
                             have q2 := slotv_put_ne (a := a) (s := 64) (t := 63) (v := .agg #[.int .i64 (n : Int), .slice A1 rels.length c1]) (by decide)
                             exact q1.trans (congrArg (fun z => Value.agg #[.int .i64 (n : Int),z]) (q2.trans e3).symm)
                           · intro h; simp [n8] at h
                         · obtain rfl := Option.some.inj ho
                           have n8 := not_yet hcl 8 rfl ⟨7, .data⟩ (by simp) rfl hls
                           refine wpOpIn_of rfl rfl (wpW_val (r_alloc40 rfl) ⟨_,rfl,⟨?_, ?_, ?_, ?_, ?_, ?_⟩,trivial,(fun h => by simp at h), .inr (.inr (.inr (.inl rfl)))⟩)
                           · exact hS1.trans ((hal _).mono hz6)
                           · intro h h'; obtain ⟨b2,e1,hb,hB⟩ := hS2 (by simpa using h) (by simpa using h')
                             exact ⟨b2,(slotv_put_ne (a := a) (s := 11) (t := 60) (by decide)).trans e1,hb,((hal _).block b2 (Array.getElem?_eq_some_iff.1 hB).1).trans hB⟩
                           · intro h; obtain ⟨A1,c1,e1,hw⟩ := hS3 (by simpa using h)
                             exact ⟨A1,c1,(slotv_put_ne (a := a) (s := 11) (t := 63) (by decide)).trans e1,owns_below hw (hal _)⟩
                           · intro _ _; exact ⟨w6.heap.size,slotv_same (by rw [hasz]; decide),hz6,heap_alloc_new w6 _⟩
                           · intro h
                             have q1 := slotv_put_ne (a := a) (s := 11) (t := 64) (v := .pointer (some ⟨w6.heap.size,0,none⟩)) (by decide)
                             have q2 := slotv_put_ne (a := a) (s := 11) (t := 63) (v := .pointer (some ⟨w6.heap.size,0,none⟩)) (by decide)
                             exact (q1.trans (hS5 (by simpa using h))).trans (congrArg (fun z => Value.agg #[.int .i64 (n : Int),z]) q2.symm)
                           · intro h; simp [n8] at h
                         · obtain rfl := Option.some.inj ho
                           have h7 := (hpre ⟨7, .data⟩ (by simp) rfl).1
                           have h6 := (hpre ⟨6, .data⟩ (by simp) rfl).1
                           have h5 : ls 5 = true := hcl 6 _ rfl h6 ⟨5, .data⟩ (by simp) rfl
                           obtain ⟨A1,c1,e3,ho3⟩ := hS3 h5
                           obtain ⟨q2,e7,hb,hB⟩ := hS4 h7 hls
                           have e6 := hS5 h6
                           rw [e3] at e6
                           refine wpOpIn_of rfl rfl (wpW_skip (r_store40 (.tmp 11) (.tmp 64) rfl q2 zero40 #[.int .i64 (n : Int), .slice A1 rels.length c1] e7 e6 hB rfl rfl (by kernel_rfl)) ⟨undef,rfl,⟨?_, ?_, ?_, ?_, ?_, ?_⟩,trivial,(fun _ => rfl), .inr (.inr (.inr (.inr (rfl))))⟩)
                           · exact below_setRow hS1 hb _
                           · intro _ h'; simp [h5] at h'
                           · intro _; refine ⟨A1,c1,e3,owns_keep ho3 fun r hr => setRow_ne fun e => ?_⟩
                             obtain ⟨-,D,hD⟩ := owns_block ho3 r hr
                             exact (ne_type hD hB (by decide)) e
                           · intro _ h'; simp at h'
                           · intro _; exact hS5 h6
                           · intro _; exact ⟨q2,A1,c1,e7,e3,hb,setRow_heap _ _ _ _ _ _ hB⟩
                       · intro ls a w6 hall hS hP hsl
                         obtain ⟨hS1, -,hS3, -, -,hS6⟩ := hS
                         obtain ⟨qb,A1,c1,e7,e3,hqb,hB⟩ := hS6 (hall 8 (by decide))
                         obtain ⟨A2,c2,e3',ho3⟩ := hS3 (hall 5 (by decide))
                         obtain ⟨rfl, -,rfl⟩ := Value.slice.inj (e3.symm.trans e3')
                         have HB6 := Lib.hid hS1
                         have HQB := Lib.hid hqb
                         have HQX := Lib.hid hB
                         have HO3 := Lib.hid ho3
                         obtain ⟨vs2,hvs,hfr⟩ := hP.frame 79 rfl
                         have e11 : vs2 11 = .pointer (some ⟨qb,0,none⟩) := (hvs 11).trans e7
                         clear hsl hP hall hvs hS1 hS3 hS6 e7 e3 e3' hqb hB ho3
                         subst hfr
                         have hno : ∀ n : Nat,((none : Option Nat) == some n) = false := fun _ => rfl
                         simp only [hno,List.range,List.range.loop,List.map_cons,List.map_nil,List.any_cons,List.any_nil,Nat.reduceAdd,Nat.reduceBEq,Nat.reduceLT,Option.some_beq_some,Bool.or_false,if_true,if_false,List.getD_cons_zero,List.getD_cons_succ,Bool.or_true,Bool.false_eq_true,Nat.reduceEqDiff]
                         rw [e11]
                         clear e11
                         go_upto_region 18 with fail
                         have HL0 : Hid (0 < rels.length) := Lib.hid (by omega)
                         have hOT : OwnT 36 w4.heap.size (fun r => r < w4.heap.size) w6 (.slice A1 rels.length c1) rels := ⟨vs0,HO3.out,HVR0.out.keep (Ag.below HB6.out fun _ h => h) fun _ h => h⟩
                         obtain ⟨g,rfl⟩ := hOT.some_ HL0.out
                         have hgl : w4.heap.size <= g := (hOT.block g rfl).1
                         obtain ⟨hT,⟨z,hz⟩,hfz, -, -⟩ := own_put hOT (fun r hr => by omega) ((IntsF.of_at HX9.out).keep (Ag.below HB6.out fun _ h => h)) (fun r hr => by omega) hkl rfl
                         have hgq : qb ≠ g := by
                           obtain ⟨-,D,hD⟩ := hOT.block g rfl
                           exact fun e => (ne_type hD HQX.out (by decide)) e.symm
                         have hqc := (cell_of2 HQX.out).2
                         obtain ⟨W6,hW6⟩ : ∃ W6,W6 = w6.setCell ⟨g,k,none⟩ (.slice A9 x.length c9) := ⟨_,rfl⟩
                         have hb6 : Below w4.heap.size w4 W6 := by
                           rw [hW6]
                           exact HB6.out.trans ⟨rfl,rfl,rfl,by simp [World.setCell],fun q hq => Below.heap_setCell w6 ⟨g,k,none⟩ _ q (by show q ≠ g; omega)⟩
                         have HQ6 : Hid (W6.heap[qb]? = some (.cells #[.int .i64 (n : Int), .slice (some ⟨g,0,none⟩) rels.length c1] 24 (0,0))) := Lib.hid (by rw [hW6]; exact (Below.heap_setCell w6 ⟨g,k,none⟩ _ qb hgq).trans HQX.out)
                         have H39 := Lib.hid (clean39_ok W6 (.slice (some ⟨g,0,none⟩) rels.length c1) (n : Int) (rels.set k x) (by rw [hW6]; exact hT) HPE.out)
                         have HB46 := Lib.hid hb6
                         have HWE := Lib.hid hW6
                         clear hOT hgl hT hgq hb6 hW6 HO3
                         generalize cleanL (rels.set k x) = CL at *
                         go_wp2_with ((with_reducible refine wpList_sel 71 ?_); refine wpList_val rfl (r_loadAt 24 (.tmp 11) _ _ rfl rfl (load40 (HWE.out ▸ HQ6.out))) ?_)
                         rw [<- HWE.out]
                         refine H39.out.mono ?_
                         rintro e W7 ⟨⟨A10,c10,rfl,ht10⟩,hb7⟩
                         have HQ7 := Lib.hid ((hb7.block _ (Array.getElem?_eq_some_iff.1 HQ6.out).1).trans HQ6.out)
                         have hb47 : Below w4.heap.size w4 W7 := HB46.out.trans (hb7.mono HB46.out.size)
                         have HX7 := Lib.hid ((hb47.block _ (Array.getElem?_eq_some_iff.1 HX4.out).1).trans HX4.out)
                         have HB7 : Hid (Below w.heap.size w W7) := Lib.hid (HB0.out.trans ((HB04.out.trans (hb47.mono HB04.out.size)).mono HB0.out.size))
                         have HT10 := Lib.hid ht10
                         have HSZ : Hid (w.heap.size + 2 <= w4.heap.size /\ w4.heap.size <= qb /\ qb < W6.heap.size /\ w4.heap.size <= W6.heap.size) := Lib.hid ⟨by have := HWS.out; have := HB04.out.size; omega,HQB.out,(Array.getElem?_eq_some_iff.1 HQ6.out).1,HB46.out.size⟩
                         have HBS := Lib.hid (setRow_heap W7 qb _ #[.int .i64 (n : Int), .slice A10 CL.length c10] _ _ HQ7.out)
                         have HXS : Hid ((W7.setRow qb #[.int .i64 (n : Int), .slice A10 CL.length c10]).heap[w.heap.size + 1]? = some (.cells zero40 24 (0,0))) := Lib.hid ((setRow_ne (by have := HSZ.out; omega)).trans HX7.out)
                         clear hb7 hb47 ht10 hqc hz hfz
                         go_wp2_with (first
                           | ((with_reducible refine wpList_selStore 24 11 73 ?_); refine wpList_skip rfl (r_store40 (.tmp 11) (.tmp 73) rfl qb _ #[.int .i64 (n : Int), .slice A10 CL.length c10] rfl rfl HQ7.out rfl rfl (by kernel_rfl)) ?_)
                           | ((with_reducible refine wpList_sel 75 ?_); refine wpList_val rfl (r_loadAt 24 (.tmp 11) _ _ rfl rfl (load40 HBS.out)) ?_)
                           | ((with_reducible refine wpList_selStore 24 2 75 ?_); refine wpList_skip rfl (r_store40 (.tmp 2) (.tmp 75) rfl (w.heap.size + 1) zero40 #[.int .i64 (n : Int), .slice A10 CL.length c10] rfl rfl HXS.out rfl rfl (by kernel_rfl)) ?_))
                         try simp only [Exit.inBlock,Exit.then]
                         refine bodyPost_ret (results_40_tmp (p := 2) (q := 3) rfl _ _ (w.heap.size + 1) #[.int .i64 (n : Int), .slice A10 CL.length c10] (.bool true) rfl rfl (setRow_heap _ _ _ _ _ _ HXS.out) rfl) rfl ⟨?_,below_setRow (below_setRow HB7.out (by have := HSZ.out; omega) _) (Nat.le_succ _) _⟩
                         rw [HSH.out]
                         have hsz : ((W7.setRow qb #[.int .i64 (n : Int), .slice A10 CL.length c10]).setRow (w.heap.size + 1) #[.int .i64 (n : Int), .slice A10 CL.length c10]).heap.size = W7.heap.size := by rw [setRow_size,setRow_size]
                         have h1 := HSZ.out
                         refine ⟨A10,c10,rfl, ?_⟩
                         rw [hsz]
                         exact (HT10.out.keep fun q hq1 hq2 => (setRow_ne (by omega)).trans (setRow_ne (by omega))).mono (by omega) (Nat.le_refl _)
                 · obtain rfl : lr = m := by omega
                   have HIV := Lib.hid (inv36_v wr (.slice A lr c) R HM.out.2.1 HS.out.2.2.1.1 (by have := HRL.out; omega))
                   have HVM : Hid ((∀ z ∈ invW R,Mild z) /\ (invW R).length <= 4000) := Lib.hid ⟨fun z hz => mild_inv HS.out.2.2.1.1 z (red_mem hz),by have h1 := red_length (inv R); rw [length_inv] at h1; have := HRL.out; unfold invW; omega⟩
                   have HNX : Hid (s + 1 = 1 -> invW R = invW (rels.getD i [])) := Lib.hid fun h => by rw [HS.out.2.2.2.1 (by omega)]
                   go_wp2_with fail
                   refine HIV.out.mono ?_
                   rintro e w9 ⟨v,rfl,⟨⟨A9,c9,rfl,h9⟩,hb⟩⟩
                   have H9 := Lib.hid h9
                   have HB9 := Lib.hid (HM.out.1.trans (hb.mono HM.out.1.size))
                   clear h9 hb HIV
                   generalize invW R = y at *
                   go_wp2_with fail
                   go_roundw
                   case rel => exact ⟨s + 1,y,A9,c9,by go_num,by omega,rfl,Lib.hid ⟨HB9.out,H9.out,HVM.out,fun h => absurd h (by omega),HNX.out,fun j hj => HM.out.2.2 j (by rw [Nat.mul_succ] at hj; exact hj)⟩⟩
                   case measure => simp [intOf]; omega
             · obtain rfl : s = 2 := by omega
               have HS2 : Hid (sh2 rels i k = none) := Lib.hid (sh2_none fun j hj => HS.out.2.2.2.2.2 j (by rw [turns_len2 (by rw [HIL.out]; exact HLR.out), <- HLR.out] at hj; exact hj))
               go_wp2_with fail
               go_roundw
               case rel => exact ⟨k + 1,by go_num,by omega,Lib.hid ⟨HS.out.1,fun j hj hne => by
                 rcases Nat.lt_succ_iff_lt_or_eq.1 hj with h | h
                 · exact HK.out.2 j h hne
                 · rw [h]; exact HS2.out⟩⟩
               case measure => simp [intOf]; omega
       · obtain rfl : rels.length = k := by omega
         go_wp2_with fail
         go_roundw
         case rel => exact ⟨i + 1,by go_num,by omega,Lib.hid ⟨HK.out.1,fun a k ha hk hne => by
           rcases Nat.lt_succ_iff_lt_or_eq.1 ha with h | h
           · exact HI.out.2 a k h hk hne
           · subst h; exact HK.out.2 k hk hne⟩⟩
         case measure => simp [intOf]; omega
   · obtain rfl : i = rels.length := by omega
     have HSN : Hid (shortF rels = none) := Lib.hid (shortF_none fun i k hi hk hne => HI.out.2 i k hi hk hne)
     have HP2 := Lib.hid (HBX.out wr HI.out.1).2.1
     have HX2 := Lib.hid x2
     have HBW := Lib.hid (HB0.out.trans (HI.out.1.mono HB0.out.size))
     clear x2
     go_wp2_with ((with_reducible refine wpList_sel 78 ?_); refine wpList_val rfl (r_loadAt 24 (.tmp 1) _ _ rfl rfl (load40 HP2.out)) ?_; refine wpList_skip rfl (r_store40 (.tmp 2) (.tmp 78) rfl (w.heap.size + 1) zero40 #[.int .i64 (n : Int), .slice Ar rels.length cr] rfl rfl HX2.out rfl rfl (by kernel_rfl)) ?_)
     go_wp2_with fail
     try simp only [Exit.inBlock,Exit.then]
     refine bodyPost_ret (results_40_tmp (p := 2) (q := 3) rfl _ _ (w.heap.size + 1) #[.int .i64 (n : Int), .slice Ar rels.length cr] (.bool false) rfl rfl (setRow_heap _ _ _ _ _ _ HX2.out) rfl) rfl ⟨?_,below_setRow HBW.out (Nat.le_succ _) _⟩
     rw [HSN.out]
end Go.Proofs
