/- pres.Clean; word.Subst where it accepts; The reference's word.Subst; append of one list to another of the call's own; A region that draws its order: what its slots hold lies in blocks of their own (footprints); some are written again by the operation that takes them; The walk of RewriteKnown; What the slots of a drawn region hold, each in blocks of its own (for the law of T2); One operation at a time: what it runs to; (*coset.state).find; (*coset.state).alive, join, merge; (*coset.state).merge. -/
import Derived.Test.YtmmbmhjdnlmedaaGreatSiCS9
import Derived.Test.YtmmbmhjdnlmedaaGreatSiCS7
import Derived.Test.YtmmbmhjdnlmedaaGreatSiCS6
import Derived.Deep.RegionHeld3
import Derived.Test.YtmmbmhjdnlmedaaGreatSiCS1
import Derived.Test.YtmmbmhjdnlmedaaGreatSiCS8
import Derived.BigRegion
import Derived.WalkMore
namespace Go.Proofs
open Go.RowKit Go.Shelf Go.Lib Go.Sort Go.Proofs.Ct Go.Proofs.Tz Go.Maps
section
variable {ops : Array Oper} {o : Oper} {a : Act} {w w' : World} {K : Act -> World -> Prop} {Q : Exit -> Act -> World -> Prop} {E : Prop} {v : Value}
end
theorem OutSt.tidy {F : Nat -> Prop} {w0 wr w' : World} {A : Option Addr} {n m c : Nat} {xs ys : List (List Int)} (h : OutSt 36 F w0 wr (.slice A n c) xs) (ho : OwnT 36 w0.heap.size F w' (.slice A m c) ys) (hg : wr.grownBy w' (Value.slice A m c).ownBlock) : OutSt 36 F w0 w' (.slice A m c) ys := by
 have hub := h.out.block
 rw [ownBlock_len A n m c c] at hub
 refine ⟨h.below.grown hg h.below.size (fun r hr => (hub r hr).1),ho,fun k hk => ?_⟩
 obtain ⟨h1,h2,C,hC⟩ := h.fs k hk
 refine ⟨h1,Nat.lt_of_lt_of_le h2 hg.size,C,grown_cells hg hC fun e => ?_⟩
 obtain ⟨-,C',hC'⟩ := hub k e
 rw [hC] at hC'
 injection hC' with h5
 injection h5 with _ h6 _
 exact absurd h6 (by decide)
theorem OutSt.sep {F : Nat -> Prop} {w0 wr : World} {v : Value} {xs : List (List Int)} (h : OutSt 36 F w0 wr v xs) : ∀ k,F k -> k < wr.heap.size /\ v.ownBlock ≠ some k := fun k hk => by
 obtain ⟨h1,h2,C,hC⟩ := h.fs k hk
 refine ⟨h2,fun e => ?_⟩
 obtain ⟨-,C',hC'⟩ := h.out.block k e
 rw [hC] at hC'
 injection hC' with h5
 injection h5 with _ h6 _
 exact absurd h6 (by decide)
theorem cell_setRow {W : World} {b : Nat} {cs : Array Value} {p : Addr} (h : p.block ≠ b) : (W.setRow b cs).cell? p = W.cell? p := World.cell?_of_block (setRow_other _ _ _ _ h)
theorem OutSt.setRow {F : Nat -> Prop} {w0 wr : World} {v : Value} {xs : List (List Int)} (h : OutSt 36 F w0 wr v xs) {b : Nat} {old cs : Array Value} (hb : wr.heap[b]? = some (.cells old 24 (0,0))) (hw : w0.heap.size <= b) : OutSt 36 F w0 (wr.setRow b cs) v xs := by
 refine h.grown (row := some b) ⟨rfl,rfl,rfl,by rw [World.setRow]; simp,fun k _ hne => setRow_other _ _ k _ (fun e => hne (by rw [e]))⟩ fun r hr => ?_
 obtain rfl := Option.some.inj hr
 refine ⟨hw,fun hF => ?_,fun e => ?_⟩
 · obtain ⟨-, -,C,hC⟩ := h.fs _ hF
   rw [hb] at hC
   injection hC with h5
   injection h5 with _ h6 _
   exact absurd h6 (by decide)
 · obtain ⟨-,C,hC⟩ := h.out.block _ e
   rw [hb] at hC
   injection hC with h5
   injection h5 with _ h6 _
   exact absurd h6 (by decide)
theorem OutSt.base {F : Nat -> Prop} {w w0 wr : World} {v : Value} {xs : List (List Int)} (hb : Below w.heap.size w w0) (h : OutSt 36 F w0 wr v xs) : OutSt 36 F w wr v xs := by
 obtain ⟨vals,h1,h2⟩ := h.out
 refine ⟨hb.trans (h.below.mono hb.size),⟨vals,owns_base h1 hb.size,h2⟩,fun k hk => ?_⟩
 obtain ⟨a,b,c⟩ := h.fs k hk
 exact ⟨Nat.le_trans hb.size a,b,c⟩
theorem letsTo_mild {rels : List (List Int)} (h : ∀ j,j < rels.length -> LOk 16 (rels.getD j [])) : ∀ k,k <= rels.length -> ∀ x ∈ leastsTo rels k, ∀ z ∈ x,Mild z
 | 0,_,x,hx => by cases hx
 | k + 1,hk,x,hx => by
   have ih := letsTo_mild h k (by omega)
   change x ∈ (if leastW (rels.getD k []) = [] then leastsTo rels k else leastsTo rels k ++ [leastW (rels.getD k [])]) at hx
   split at hx
   · exact ih x hx
   · rcases List.mem_append.1 hx with h1 | h1
     · exact ih x h1
     · rw [List.mem_singleton.1 h1]
       exact leastOf_mild fun z hz => mild_ok (by omega) (h k (by omega)) z ((cyc_sub _).1 z hz)
theorem leastsTo_len (rels : List (List Int)) : ∀ k,(leastsTo rels k).length <= k
 | 0 => Nat.le_refl _
 | k + 1 => by
   have ih := leastsTo_len rels k
   show (if leastW (rels.getD k []) = [] then leastsTo rels k else leastsTo rels k ++ [leastW (rels.getD k [])]).length <= k + 1
   split
   · omega
   · rw [List.length_append,List.length_singleton]; omega
theorem two_set {W : World} {b : Nat} {o1 o2 x y : Value} {T : TypeId} (h : W.heap[b]? = some (.cells #[o1,o2] T (0,0))) : (W.setCell ⟨b,0,none⟩ x).setCell ⟨b,1,none⟩ y = W.setRow b #[x,y] := by
 rw [setCell_eq,setCell_eq]
 unfold mapBlock World.setRow
 congr 1
 apply Array.ext_getElem?
 intro i
 by_cases hi : b = i
 · subst hi
   simp [Array.getElem?_modify,h,onCells]
 · simp [Array.getElem?_modify,hi]
theorem two_facts {W : World} {b : Nat} {o1 o2 : Value} {T : TypeId} (h : W.heap[b]? = some (.cells #[o1,o2] T (0,0))) (x : Value) : W.cell? ⟨b,0,none⟩ = some o1 /\ W.frozen? ⟨b,0,none⟩ = false /\ (W.setCell ⟨b,0,none⟩ x).cell? ⟨b,1,none⟩ = some o2 /\ (W.setCell ⟨b,0,none⟩ x).frozen? ⟨b,1,none⟩ = false := by
 have h2 : (W.setCell ⟨b,0,none⟩ x).heap[b]? = some (.cells #[x,o2] T (0,0)) := by
   rw [setCell_eq]
   simp [mapBlock,Array.getElem?_modify,h,onCells]
 exact ⟨by rw [cell_of_row _ _ _ _ _ _ h]; rfl,by simp [World.frozen?,h],by rw [cell_of_row _ _ _ _ _ _ h2]; rfl,by simp [World.frozen?,h2]⟩
def CleanPost (g : Int) (rels : List (List Int)) (w : World) (e : Ending) (w' : World) : Prop :=
 ∃ A c F,e = .returned (.tuple #[.agg #[.int .i64 g, .slice A (cleanL rels).length c], .int .i64 0]) /\ OutSt 36 F w w' (.slice A (cleanL rels).length c) (cleanL rels)
set_option maxRecDepth 100000 in
set_option maxHeartbeats 4000000 in
theorem clean26_ok (w : World) (vr : Value) (g : Int) (rels : List (List Int)) (hR : Tab w vr rels) (he : presE g rels = 0) : Calls Tryz.prog 23 #[.agg #[.int .i64 g,vr]] w (CleanPost g rels w) := by
 obtain ⟨Ar,cr,rfl⟩ := Tab.form hR
 have H19 : Hid (∀ W,Tab W (.slice Ar rels.length cr) rels -> Calls Tryz.prog 26 #[.agg #[.int .i64 g, .slice Ar rels.length cr]] W fun e w' => (∃ y,e = .returned (.tuple #[.int .i64 0, .int .i64 y])) /\ Below W.heap.size W w') := Lib.hid fun W h => by
   have := pcheck78_any W _ g rels h
   unfold PresPost at this
   rw [he] at this
   exact this
 obtain ⟨gn, -,hg1,hg2,hln,hall⟩ := presE_good he
 have hok : ∀ j,j < rels.length -> LOk 16 (rels.getD j []) /\ (rels.getD j []).length <= 4000 := fun j hj => ⟨fun x hx => by have := (hall j hj).1 x hx; omega,(hall j hj).2⟩
 have HOK := Lib.hid hok
 clear he hall hok hg1 hg2
 have HPB : Hid (∀ w0 : World,w0 = (w.alloc (.cells #[.int .i64 g, .slice Ar rels.length cr] 24)).alloc (.cells zero40 24) -> Below w.heap.size w w0 /\ w0.heap.size = w.heap.size + 2 /\ w0.heap[w.heap.size]? = some (.cells #[.int .i64 g, .slice Ar rels.length cr] 24 (0,0)) /\ w0.heap[w.heap.size + 1]? = some (.cells zero40 24 (0,0))) := Lib.hid fun w0 h => by
   subst h
   refine ⟨((Below.refl _ _).alloc (Nat.le_refl _) _).alloc (by simp) _,by simp, ?_, ?_⟩
   · exact (Below.heap_alloc (w.alloc _) _ w.heap.size (by simp)).trans (heap_alloc_new w _)
   · have := heap_alloc_new (w.alloc (.cells #[.int .i64 g, .slice Ar rels.length cr] 24)) (.cells zero40 24); rwa [World.size_alloc] at this
 have HRR := Lib.hid hR
 clear hR
 have hr0 : (0 : Int) <= (rels.length : Int) := Int.natCast_nonneg _
 go_enter Tryz.func23,Tryz.ntmps23
 go_wp2_with ((with_reducible refine wpList_sel 2 ?_); refine wpList_val rfl (r_alloc40 rfl) ?_)
 generalize hw0 : (w.alloc (.cells #[.int .i64 g, .slice Ar rels.length cr] 24)).alloc (.cells zero40 24) = w0 at *
 obtain ⟨hb0,hsz,hbp,hbr⟩ := HPB.out w0 rfl
 have HB0 := Lib.hid hb0
 have HSZ := Lib.hid hsz
 have HBP := Lib.hid hbp
 have HBX : Hid (∀ W,Below w0.heap.size w0 W -> (W.cell? ⟨w.heap.size,0,none⟩ = some (.int .i64 g) /\ W.cell? ⟨w.heap.size,1,none⟩ = some (.slice Ar rels.length cr)) /\ W.heap[w.heap.size]? = some (.cells #[.int .i64 g, .slice Ar rels.length cr] 24 (0,0)) /\ W.heap[w.heap.size + 1]? = some (.cells zero40 24 (0,0)) /\ w.heap.size + 1 < W.heap.size) := Lib.hid fun W h => by
   have h1 := (h.block _ (Array.getElem?_eq_some_iff.1 hbp).1).trans hbp
   have h2 := (h.block _ (Array.getElem?_eq_some_iff.1 hbr).1).trans hbr
   exact ⟨cell_of2 h1,h1,h2,(Array.getElem?_eq_some_iff.1 h2).1⟩
 have HR0 := Lib.hid (kept_tab.below HRR.out hb0)
 clear hw0 hb0 hsz hbp hbr HPB HRR
 go_wp2_with (first
   | ((with_reducible refine wpList_sel 11 ?_); refine wpList_val rfl (r_loadAt 24 (.tmp 1) _ _ rfl rfl (load40 HBP.out)) ?_)
   | (go_at_call 26; (with_reducible refine (H19.out w0 HR0.out).mono ?_); rintro e w1 ⟨⟨y,rfl⟩,hb⟩
      have HB1 := Lib.hid hb
      obtain ⟨⟨p1,q1⟩,x1⟩ := HBX.out _ hb
      clear hb x1))
 go_loopw [6,8,9,22] (fun va _ _ z wr => ∃ (k : Nat) (A : Option Addr) (c : Nat) (F : Nat -> Prop),k <= rels.length /\ z = .int .i64 k /\ va = .slice A (leastsTo rels k).length c /\ Hid (OutSt 36 F w1 wr (.slice A (leastsTo rels k).length c) (leastsTo rels k))) (fun _ _ _ z _ => rels.length - (intOf z).toNat)
 case atStart => exact ⟨0,none,0,_,Nat.zero_le _,rfl,rfl,Lib.hid (OutSt.nil 36 (Below.refl _ _))⟩
 case round =>
   obtain ⟨k,A,c,F,hk,rfl,rfl,HS⟩ := hrel
   have HBW : Hid (Below w0.heap.size w0 wr) := Lib.hid (HB1.out.trans (HS.out.below.mono HB1.out.size))
   have hk0 : (0 : Int) <= (k : Int) := Int.natCast_nonneg _
   have hll := leastsTo_len rels k
   by_cases hlt : k < rels.length
   · have hlt' : (k : Int) < (rels.length : Int) := by omega
     obtain ⟨A',c',e',t1,t2,t3⟩ := (kept_tab.below HR0.out HBW.out).open_
     injection e' with e1 _ e3
     subst e1 e3
     obtain ⟨b,o,rfl,hcc⟩ := t3 (by omega)
     obtain ⟨u,hu,hI⟩ := hcc k hlt
     have hL := least44_any wr u (rels.getD k []) hI (HOK.out k hlt).1 (HOK.out k hlt).2
     unfold OwnPost at hL
     have HL := Lib.hid hL
     obtain ⟨Au,cu,rfl, -⟩ := hI.open_
     have HFY : Hid (Fits (leastW (rels.getD k []))) := Lib.hid (Mild.fits (mild_ok (by omega) (leastW_ok (HOK.out k hlt).1)))
     have HST : Hid (leastsTo rels (k + 1) = if leastW (rels.getD k []) = [] then leastsTo rels k else leastsTo rels k ++ [leastW (rels.getD k [])]) := Lib.hid rfl
     clear hcc hI hL t1 t2 t3
     generalize (rels.getD k []).length = lx at *
     generalize leastW (rels.getD k []) = y at *
     by_cases hy : y = []
     · subst hy
       rw [if_pos rfl] at HST
       go_wp2_with (go_at_call 50; (refine HL.out.mono ?_); rintro e w2 ⟨A2,c2,rfl,ho,hb⟩)
       go_roundw
       case rel => exact ⟨k + 1,A,c,F,by omega,by go_num,by rw [HST.out],Lib.hid (by rw [HST.out]; exact HS.out.below' hb)⟩
       case measure => simp [intOf]; omega
     · rw [if_neg hy] at HST
       have hy1 : (0 : Int) < (y.length : Int) := by
         have : y.length ≠ 0 := fun e => hy (List.eq_nil_of_length_eq_zero e)
         omega
       clear hy
       go_wp2_with (first
         | (go_at_call 50; (refine HL.out.mono ?_); rintro e w2 ⟨A2,c2,rfl,ho,hb⟩
            obtain ⟨A8,c8,w8,hr8,hS8⟩ := (HS.out.with_row hb ho).done (by decide) Tryz.underlying22 info25p HFY.out (by omega)
            have HR8 := Lib.hid hr8
            have HS8 := Lib.hid hS8
            clear hr8 hS8 ho hb)
         | ((with_reducible refine wpList_sel 34 ?_); refine wpList_val rfl (r_app (.tmp 31) (.tmp 33) 22 rfl rfl rfl HR8.out) ?_))
       go_roundw
       case rel => exact ⟨k + 1,A8,c8,_,by omega,by go_num,by rw [HST.out,List.length_append]; rfl,Lib.hid (by rw [HST.out,List.length_append]; exact HS8.out)⟩
       case measure => simp [intOf]; omega
   · obtain rfl : k = rels.length := by omega
     obtain ⟨⟨p1,q1⟩,hx1,hx2, -⟩ := HBX.out _ HBW.out
     have HX2 := Lib.hid hx2
     clear hx1 hx2 q1
     have HSD := Lib.hid (HS.out.below' ((Below.refl wr.heap.size wr).drew))
     have HTD := Lib.hid (tidy45_any w1.heap.size F wr.drew A c _ HSD.out.out HSD.out.sep (letsTo_mild (fun j hj => (HOK.out j hj).1) _ (Nat.le_refl _)) (by omega))
     have HCL : Hid (∀ ys : List (List Int),ys.Perm (leastsTo rels rels.length) -> Sorted ys -> compactL ys = cleanL rels) := Lib.hid fun ys h1 h2 => clean_of_sorted h1 h2
     generalize leastsTo rels rels.length = ls at *
     go_wp2_with fail
     go_region_held3 (fun w' => w'.cell? ⟨w.heap.size,0,none⟩ = some (.int .i64 g)) (first | exact p1 | exact HK9.out | exact HK8.out)
       (first
       | (go_at_call 51
          refine HTD.out.mono ?_
          rintro e w9 ⟨ys,h1,h2,rfl,h4,h5⟩
          have hS9 := HSD.out.tidy h4 h5
          rw [HCL.out ys h1 h2] at hS9
          rw [HCL.out ys h1 h2]
          have HS9 := Lib.hid hS9
          have HX9 := Lib.hid (HBX.out _ (HB1.out.trans (hS9.below.mono HB1.out.size))).2
          have HK9 := Lib.hid (HBX.out _ (HB1.out.trans (hS9.below.mono HB1.out.size))).1.1
          have HSR := Lib.hid (fun x y => two_set (x := x) (y := y) HX9.out.2.1)
          obtain ⟨z1,z2,z3,z4⟩ := two_facts HX9.out.2.1 (.int .i64 g)
          have HK8 : Hid (((w9.setCell ⟨w.heap.size + 1,0,none⟩ (.int .i64 g)).setCell ⟨w.heap.size + 1,1,none⟩ (.slice A (cleanL rels).length c)).cell? ⟨w.heap.size,0,none⟩ = some (.int .i64 g)) := Lib.hid (by rw [HSR.out]; exact (cell_setRow (by show w.heap.size ≠ w.heap.size + 1; omega)).trans HK9.out)
          clear h1 h2 h4 h5 hS9))
     all_goals
       go_wp2_with fail
       try simp only [Exit.inBlock,Exit.then]
       refine bodyPost_ret (results_40_tmp (p := 2) (q := 3) rfl _ _ (w.heap.size + 1) #[.int .i64 g, .slice A (cleanL rels).length c] (.int .i64 0) rfl rfl (by rw [HSR.out]; exact setRow_heap _ _ _ _ _ _ HX9.out.2.1) rfl) rfl ⟨A,c,F,rfl, ?_⟩
       rw [HSR.out]
       exact (OutSt.base (HB0.out.trans (HB1.out.mono HB0.out.size)) HS9.out).setRow HX9.out.2.1 (Nat.le_succ _)
end Go.Proofs
namespace Go.Proofs
open Go.RowKit Go.Shelf Go.Lib Go.Sort Go.Proofs.Ct Go.Proofs.Tz Go.Maps
theorem sub57_ok (W : World) (b n : Nat) (h : W.cell? ⟨b,0,none⟩ = some (.int .u64 (n : Int))) (x : Int) (hx : Mild x) (h0 : x ≠ 0) (hn : x.natAbs <= n) : Calls Tryz.prog 110 #[.int .i64 x, .pointer (some ⟨b,0,none⟩)] W fun e w' => e = .returned (.bool false) /\ ∃ q,w' = W.drewN q := by
 have hd : (x == 0) = false := by simpa using h0
 have HZ := Lib.hid fun r => size58_any (W.drewN r) x hx
 have hc : ¬ (n : Int) < (x.natAbs : Int) := by omega
 have hc' : decide ((n : Int) < (x.natAbs : Int)) = false := decide_eq_false hc
 clear h0 hn hx
 generalize (x.natAbs : Int) = y at *
 go_enter Tryz.func110,Tryz.ntmps110
 go_wp2_with fail
 go_quiet ((go_at_call 111; exact Calls.quiet_of_same (HZ.out _)))
 go_wp2_with fail
 go_ret
 exact ⟨rfl,by first | exact ⟨_,rfl⟩ | exact ex_drewN⟩
theorem sbTo_succ (G : List (List Int)) (z : List Int) (k : Nat) : sbTo G z (k + 1) = mulW (sbTo G z k) (if 0 < z.getD k 0 then G.getD (z.getD k 0 - 1).toNat [] else inv (G.getD (-(z.getD k 0) - 1).toNat [])) := rfl
theorem mild_app {a b : List Int} (ha : ∀ z ∈ a,Mild z) (hb : ∀ z ∈ b,Mild z) : ∀ z ∈ a ++ b,Mild z := fun z hz => by
 rcases List.mem_append.1 hz with h | h
 · exact ha z h
 · exact hb z h
theorem mild_inv' {a : List Int} (ha : ∀ z ∈ a,Mild z) : ∀ z ∈ inv a,Mild z := mild_inv ha
theorem sbTo_mild {G : List (List Int)} (hG : ∀ j, ∀ z ∈ G.getD j [],Mild z) (x : List Int) : ∀ k, ∀ z ∈ sbTo G x k,Mild z
 | 0 => fun z hz => by cases hz
 | k + 1 => by
   have ih := sbTo_mild hG x k
   rw [sbTo_succ]
   intro z hz
   refine mild_app ih ?_ z (Ct.red_mem hz)
   split
   · exact hG _
   · exact mild_inv' (hG _)
theorem sbTo_len {G : List (List Int)} {m : Nat} (hG : ∀ j,(G.getD j []).length <= m) (x : List Int) : ∀ k,(sbTo G x k).length <= k * m
 | 0 => Nat.zero_le _
 | k + 1 => by
   have ih := sbTo_len hG x k
   rw [sbTo_succ,Nat.succ_mul]
   have h1 : ∀ y : List Int,y.length <= m -> (mulW (sbTo G x k) y).length <= k * m + m := fun y hy => by
     have := red_length (sbTo G x k ++ y)
     rw [List.length_append] at this
     unfold mulW
     omega
   split
   · exact h1 _ (hG _)
   · exact h1 _ (by rw [length_inv]; exact hG _)
def SubPost (x : List Int) (w : World) (e : Ending) (w' : World) : Prop :=
 (if x.length <= 4000 then ∃ A c,e = .returned (.tuple #[.slice A x.length c, .int .i64 0]) /\ OwnI w.heap.size w' (.slice A x.length c) x else e = .returned (.tuple #[.slice none 0 0, .int .i64 4])) /\ Below w.heap.size w w'
set_option maxRecDepth 100000 in
set_option maxHeartbeats 4000000 in
theorem subst42_ok (w : World) (u v : Value) (z : List Int) (G : List (List Int)) (hz : IntsAt w u z) (hG : Tab w v G) (hzl : z.length <= 4000) (hok : ∀ x ∈ z,Mild x /\ x ≠ 0 /\ x.natAbs <= G.length) (hm : ∀ j, ∀ y ∈ G.getD j [],Mild y) (hl : ∀ j,(G.getD j []).length <= 1000) : Calls Tryz.prog 70 #[u,v] w (SubPost (sbW G z) w) := by
 obtain ⟨Ag,cg,rfl⟩ := Tab.form hG
 obtain ⟨Az,cz,rfl, -⟩ := hz.open_
 have hgb : (G.length : Int) <= 9223372036854775807 := by
   obtain ⟨A',c',e',t1,t2, -⟩ := hG.open_
   omega
 have HS : Hid (sbW G z = sbTo G z z.length) := Lib.hid rfl
 have hz0 : (0 : Int) <= (z.length : Int) := Int.natCast_nonneg _
 have hg0 : (0 : Int) <= (G.length : Int) := Int.natCast_nonneg _
 have hzl' : (z.length : Int) <= 4000 := by omega
 have HB0 : Hid (Below w.heap.size w (w.alloc (.cells #[.int .u64 (G.length : Int)] 104))) := Lib.hid ((Below.refl _ _).alloc (Nat.le_refl _) _)
 have HP : Hid (Calls Tryz.prog 62 #[.slice Az z.length cz, .func (.func 110) #[] #[.pointer (some ⟨w.heap.size,0,none⟩)]] (w.alloc (.cells #[.int .u64 (G.length : Int)] 104)) fun e w' => e = .returned (.bool false) /\ ∃ q,w' = (w.alloc (.cells #[.int .u64 (G.length : Int)] 104)).drewN q) := Lib.hid (by
   have h1 := has74_any 110 #[.pointer (some ⟨w.heap.size,0,none⟩)] (fun x => Mild x /\ x ≠ 0 /\ x.natAbs <= G.length) (fun _ => false) (w.alloc (.cells #[.int .u64 (G.length : Int)] 104)) (enters_of Tryz.func110 (by kernel_rfl) rfl)
     (fun x q hx => (sub57_ok ((w.alloc (.cells #[.int .u64 (G.length : Int)] 104)).drewN q) w.heap.size G.length (by
       have := heap_alloc_new w (.cells #[.int .u64 (G.length : Int)] 104)
       show (w.alloc (.cells #[.int .u64 (G.length : Int)] 104)).cell? _ = _
       rw [cell_of_row _ _ _ _ _ _ this]; rfl) x hx.1 hx.2.1 hx.2.2).mono fun e w' ⟨a,q',b⟩ => ⟨a,q + q',by rw [b,World.drewN_drewN]⟩)
     (.slice Az z.length cz) z (hz.below HB0.out) hok
   rwa [show z.any (fun _ => false) = false by simp] at h1)
 have HZ := Lib.hid hz
 have HG := Lib.hid hG
 have HOK : Hid (∀ j,j < z.length -> Mild (z.getD j 0) /\ z.getD j 0 ≠ 0 /\ (z.getD j 0).natAbs <= G.length) := Lib.hid fun j hj => hok _ (by rw [List.getD_eq_getElem?_getD,List.getElem?_eq_getElem hj]; exact List.getElem_mem hj)
 have HM := Lib.hid hm
 have HL := Lib.hid hl
 clear hz hG hok hm hl
 go_enter Tryz.func70,Tryz.ntmps70
 go_wp2_with (go_at_call 62; (refine HP.out.mono ?_); rintro e w1 ⟨rfl,q,rfl⟩)
 generalize hw1 : w.alloc (.cells #[.int .u64 (G.length : Int)] 104) = w1 at *
 clear hw1 HP
 go_loopw [7,9,10,19] (fun vo _ _ i wr => ∃ (k : Nat) (A : Option Addr) (c : Nat),k <= z.length /\ i = .int .i64 k /\ vo = .slice A (sbTo G z k).length c /\ Hid (OwnI w.heap.size wr (.slice A (sbTo G z k).length c) (sbTo G z k)) /\ Hid (Below w.heap.size w wr)) (fun _ _ _ i _ => z.length - (intOf i).toNat)
 case atStart => exact ⟨0,none,0,Nat.zero_le _,rfl,rfl,Lib.hid (World.ownsRow_nil _ _ _ _),Lib.hid (by first | exact below_drewN HB0.out _ | exact HB0.out)⟩
 case round =>
   obtain ⟨k,A,c,hk,rfl,rfl,HO,HB⟩ := hrel
   have hk0 : (0 : Int) <= (k : Int) := Int.natCast_nonneg _
   have hsl := sbTo_len HL.out z k
   have hsl2 : k * 1000 <= 4000 * 1000 := Nat.mul_le_mul_right _ (by omega)
   by_cases hlt : k < z.length
   · have hlt' : (k : Int) < (z.length : Int) := by omega
     obtain ⟨hx1,hx2,hx3⟩ := HOK.out k hlt
     obtain ⟨A1,c1,e1, -, -,hcc0⟩ := (HZ.out.below HB.out).open_
     injection e1 with e1 _ e3
     subst e1 e3
     obtain ⟨b,o,rfl,hcc⟩ := hcc0 (by omega)
     have hcx := hcc k hlt
     obtain ⟨m,hmx⟩ : ∃ m,m + 1 = (z.getD k 0).natAbs := ⟨(z.getD k 0).natAbs - 1,by omega⟩
     obtain ⟨A2,c2,e2, -, -,t3⟩ := (kept_tab.below HG.out HB.out).open_
     injection e2 with e2 _ e4
     subst e2 e4
     obtain ⟨bg,og,rfl,hgg⟩ := t3 (by omega)
     obtain ⟨ug,hug,hI⟩ := hgg m (by omega)
     obtain ⟨Au,cu,rfl, -⟩ := hI.open_
     have HI := Lib.hid hI
     have HMY := Lib.hid (HM.out m)
     have HLY := Lib.hid (HL.out m)
     have HST : Hid (sbTo G z (k + 1) = red (sbTo G z k ++ (if 0 < z.getD k 0 then G.getD m [] else inv (G.getD m [])))) := Lib.hid (by
       rw [sbTo_succ]
       unfold mulW
       by_cases h : 0 < z.getD k 0
       · rw [if_pos h,if_pos h,show (z.getD k 0 - 1).toNat = m by omega]
       · rw [if_neg h,if_neg h,show (-(z.getD k 0) - 1).toNat = m by omega])
     have HMUL : Hid (∀ W u' (y : List Int),Below wr.heap.size wr W -> IntsAt W u' y -> (∀ t ∈ y,Mild t) -> y.length <= 1000 -> Calls Tryz.prog 28 #[.slice A (sbTo G z k).length c,u'] W (RedPost (sbTo G z k ++ y) W)) := Lib.hid fun W u' y hb hu hy hyl => mul41_any W _ u' _ y (OwnI.ints (owns_below HO.out hb) (Mild.fits (sbTo_mild HM.out z k))) hu (sbTo_mild HM.out z k) hy (by omega)
     have HSZ := Lib.hid fun W => size58_any W (z.getD k 0) hx1
     have hmI : ((z.getD k 0).natAbs : Int) - 1 = (m : Int) := by omega
     have hm0 : (0 : Int) <= (m : Int) := Int.natCast_nonneg _
     have hmG : (m : Int) < (G.length : Int) := by omega
     have hmw : IntKind.u64.wrap (m : Int) = (m : Int) := by simp [IntKind.wrap,IntKind.bits,IntKind.signed]; omega
     unfold RedPost at HMUL
     clear hcc0 hcc t3 hgg hI hsl hsl2 hx1 hx3 hmx
     generalize sbTo G z k = S at *
     generalize G.getD m [] = y at *
     generalize ((z.getD k 0).natAbs : Int) = n at *
     generalize z.getD k 0 = x at *
     by_cases hxp : 0 < x
     · rw [if_pos hxp] at HST
       have hxn : ¬ x < 0 := by omega
       clear hxp hx2
       go_wp2_with (first
         | (go_at_call 111; (refine (HSZ.out _).mono ?_); rintro e w' ⟨rfl,rfl⟩)
         | (go_at_call 28; (refine (HMUL.out _ _ y (Below.refl _ _) HI.out HMY.out HLY.out).mono ?_); rintro e w2 ⟨A5,c5,rfl,ho,hb⟩))
       go_roundw
       case rel => exact ⟨k + 1,A5,c5,by omega,by go_num,by rw [HST.out],Lib.hid (by rw [HST.out]; exact owns_base ho HB.out.size),Lib.hid (HB.out.trans (hb.mono HB.out.size))⟩
       case measure => simp [intOf]; omega
     · rw [if_neg hxp] at HST
       have hxn : x < 0 := by omega
       have HT := Lib.hid (turned116_any wr (.slice Au y.length cu) y HI.out HMY.out (by have := HLY.out; omega))
       clear hxp hx2
       go_wp2_with (first
         | (go_at_call 111; (refine (HSZ.out _).mono ?_); rintro e w' ⟨rfl,rfl⟩)
         | (go_at_call 68; (refine HT.out.mono ?_); rintro e w4 ⟨⟨u4,rfl,hi4⟩,hb4⟩
            have hiy : (inv y).length <= 1000 := by rw [length_inv]; exact HLY.out
            have HM4 := Lib.hid (HMUL.out w4 u4 (inv y) hb4 hi4 (mild_inv' HMY.out) hiy)
            have HB4 := Lib.hid hb4
            obtain ⟨A9,c9,rfl, -⟩ := hi4.open_
            clear hi4 hb4 hiy)
         | (go_at_call 28; (refine HM4.out.mono ?_); rintro e w2 ⟨A5,c5,rfl,ho,hb⟩))
       go_roundw
       case rel => exact ⟨k + 1,A5,c5,by omega,by go_num,by rw [HST.out],Lib.hid (by rw [HST.out]; exact owns_base ho (Nat.le_trans HB.out.size HB4.out.size)),Lib.hid ((HB.out.trans (HB4.out.mono HB.out.size)).trans (hb.mono (Nat.le_trans HB.out.size HB4.out.size)))⟩
       case measure => simp [intOf]; omega
   · obtain rfl : k = z.length := by omega
     rw [<- HS.out] at HO hsl ⊢
     have hn0 : (0 : Int) <= ((sbW G z).length : Int) := Int.natCast_nonneg _
     have hnb : ((sbW G z).length : Int) <= 4000000 := by omega
     clear hsl hsl2
     generalize sbW G z = S at *
     by_cases hS : S.length <= 4000
     · have hS' : ¬ (4000 : Int) < (S.length : Int) := by omega
       have HR : Hid (S.length <= 4000) := Lib.hid hS
       clear hS
       go_wp2_with fail
       go_ret2
       exact ⟨by rw [if_pos HR.out]; exact ⟨A,c,rfl,HO.out⟩,HB.out⟩
     · have hS' : (4000 : Int) < (S.length : Int) := by omega
       have HR : Hid (¬ S.length <= 4000) := Lib.hid hS
       clear hS
       go_wp2_with fail
       go_ret2
       exact ⟨by rw [if_neg HR.out]; rfl,HB.out⟩
end Go.Proofs
namespace Go.Proofs
open Go.RowKit Go.Shelf Go.Lib Go.Sort Go.Proofs.Ct Go.Proofs.Tz
theorem i64_nat (n : Nat) (h : (n : Int) <= 9223372036854775807) : IntKind.i64.wrap (n : Int) = (n : Int) := by simp [IntKind.wrap,IntKind.bits,IntKind.signed]; omega
set_option maxRecDepth 100000 in
set_option maxHeartbeats 2000000 in
theorem subst38_ok (w : World) (u v : Value) (z : List Int) (G : List (List Int)) (hz : IntsAt w u z) (hG : Tab w v G) (hzl : z.length <= 4000) (hok : ∀ x ∈ z,Mild x /\ x ≠ 0 /\ x.natAbs <= G.length) (hm : ∀ j, ∀ y ∈ G.getD j [],Mild y) (hl : ∀ j,(G.getD j []).length <= 1000) : Calls Tryz.prog 38 #[u,v] w (SubPost (sbW G z) w) := by
 obtain ⟨Ag,cg,rfl⟩ := Tab.form hG
 obtain ⟨Az,cz,rfl, -⟩ := hz.open_
 have hgb : (G.length : Int) <= 9223372036854775807 := by
   obtain ⟨A',c',e',t1,t2, -⟩ := hG.open_
   omega
 have HS : Hid (sbW G z = sbTo G z z.length) := Lib.hid rfl
 have hz0 : (0 : Int) <= (z.length : Int) := Int.natCast_nonneg _
 have hg0 : (0 : Int) <= (G.length : Int) := Int.natCast_nonneg _
 have hzl' : (z.length : Int) <= 4000 := by omega
 have hgw : IntKind.u64.wrap (G.length : Int) = (G.length : Int) := by simp [IntKind.wrap,IntKind.bits,IntKind.signed]; omega
 have HZ := Lib.hid hz
 have HG := Lib.hid hG
 have HOK : Hid (∀ j,j < z.length -> Mild (z.getD j 0) /\ z.getD j 0 ≠ 0 /\ (z.getD j 0).natAbs <= G.length) := Lib.hid fun j hj => hok _ (by rw [List.getD_eq_getElem?_getD,List.getElem?_eq_getElem hj]; exact List.getElem_mem hj)
 have HM := Lib.hid hm
 have HL := Lib.hid hl
 clear hz hG hok hm hl
 go_enter Tryz.func38,Tryz.ntmps38
 go_wp2_with fail
 go_loopw [6] (fun i wr => ∃ k : Nat,k <= z.length /\ i = .int .i64 k /\ wr = w) (fun i _ => z.length - (intOf i).toNat)
 case atStart => exact ⟨0,Nat.zero_le _,rfl,rfl⟩
 case round =>
   obtain ⟨k,hk,rfl,hwr⟩ := hrel
   have hk0 : (0 : Int) <= (k : Int) := Int.natCast_nonneg _
   by_cases hlt : k < z.length
   · have hlt' : (k : Int) < (z.length : Int) := by omega
     obtain ⟨hx1,hx2,hx3⟩ := HOK.out k hlt
     obtain ⟨A1,c1,e1, -, -,hcc0⟩ := HZ.out.open_
     injection e1 with e1 _ e3
     subst e1 e3
     obtain ⟨b,o,rfl,hcc⟩ := hcc0 (by omega)
     have hcx := hcc k hlt
     rw [<- hwr] at hcx
     have HSZ := Lib.hid fun W => size76_any W (z.getD k 0) hx1
     have d1 : (z.getD k 0 == 0) = false := by rw [beq_eq_false_iff_ne]; exact hx2
     have d2 : decide ((G.length : Int) < ((z.getD k 0).natAbs : Int)) = false := decide_eq_false (by omega)
     clear hcc0 hcc hx1 hx3 hx2
     generalize ((z.getD k 0).natAbs : Int) = n at *
     generalize z.getD k 0 = x at *
     have HWR := Lib.hid hwr
     clear hwr
     go_wp2_with (go_at_call 76; (refine (HSZ.out _).mono ?_); rintro e w' ⟨rfl,hw'⟩; subst hw')
     go_roundw
     case rel => exact ⟨k + 1,by omega,by go_num,by first | exact HWR.out | (rw [HWR.out]) | trivial⟩
     case measure => simp [intOf]; omega
   · obtain rfl : k = z.length := by omega
     have hwr' := hwr.symm
     clear hwr
     subst hwr'
     go_wp2_with fail
     go_loopw [7,8,9] (fun vo i _ wr => ∃ (k : Nat) (A : Option Addr) (c : Nat),k <= z.length /\ i = .int .i64 k /\ vo = .slice A (sbTo G z k).length c /\ Hid (OwnI w.heap.size wr (.slice A (sbTo G z k).length c) (sbTo G z k)) /\ Hid (Below w.heap.size w wr)) (fun _ i _ _ => z.length - (intOf i).toNat)
     case atStart => exact ⟨0,none,0,Nat.zero_le _,rfl,rfl,Lib.hid (World.ownsRow_nil _ _ _ _),Lib.hid (Below.refl _ _)⟩
     case round =>
       obtain ⟨k,A,c,hk,rfl,rfl,HO,HB⟩ := hrel
       have hk0 : (0 : Int) <= (k : Int) := Int.natCast_nonneg _
       have hsl := sbTo_len HL.out z k
       have hsl2 : k * 1000 <= 4000 * 1000 := Nat.mul_le_mul_right _ (by omega)
       by_cases hlt : k < z.length
       · have hlt' : (k : Int) < (z.length : Int) := by omega
         obtain ⟨hx1,hx2,hx3⟩ := HOK.out k hlt
         obtain ⟨A1,c1,e1, -, -,hcc0⟩ := (HZ.out.below HB.out).open_
         injection e1 with e1 _ e3
         subst e1 e3
         obtain ⟨b,o,rfl,hcc⟩ := hcc0 (by omega)
         have hcx := hcc k hlt
         obtain ⟨m,hmx⟩ : ∃ m,m + 1 = (z.getD k 0).natAbs := ⟨(z.getD k 0).natAbs - 1,by omega⟩
         obtain ⟨A2,c2,e2, -, -,t3⟩ := (kept_tab.below HG.out HB.out).open_
         injection e2 with e2 _ e4
         subst e2 e4
         obtain ⟨bg,og,rfl,hgg⟩ := t3 (by omega)
         obtain ⟨ug,hug,hI⟩ := hgg m (by omega)
         obtain ⟨Au,cu,rfl, -⟩ := hI.open_
         have HI := Lib.hid hI
         have HMY := Lib.hid (HM.out m)
         have HLY := Lib.hid (HL.out m)
         have HST : Hid (sbTo G z (k + 1) = red (sbTo G z k ++ (if 0 < z.getD k 0 then G.getD m [] else inv (G.getD m [])))) := Lib.hid (by
           rw [sbTo_succ]
           unfold mulW
           by_cases h : 0 < z.getD k 0
           · rw [if_pos h,if_pos h,show (z.getD k 0 - 1).toNat = m by omega]
           · rw [if_neg h,if_neg h,show (-(z.getD k 0) - 1).toNat = m by omega])
         have HMUL : Hid (∀ W u' (y : List Int),Below wr.heap.size wr W -> IntsAt W u' y -> (∀ t ∈ y,Mild t) -> y.length <= 1000 -> Calls Tryz.prog 35 #[.slice A (sbTo G z k).length c,u'] W (RedPost (sbTo G z k ++ y) W)) := Lib.hid fun W u' y hb hu hy hyl => mul101_any W _ u' _ y (OwnI.ints (owns_below HO.out hb) (Mild.fits (sbTo_mild HM.out z k))) hu (sbTo_mild HM.out z k) hy (by omega)
         have HSZ := Lib.hid fun W => size76_any W (z.getD k 0) hx1
         have hmI : ((z.getD k 0).natAbs : Int) - 1 = (m : Int) := by omega
         have hm0 : (0 : Int) <= (m : Int) := Int.natCast_nonneg _
         have hmG : (m : Int) < (G.length : Int) := by omega
         have hnw : IntKind.i64.wrap ((z.getD k 0).natAbs : Int) = ((z.getD k 0).natAbs : Int) := i64_nat _ (by omega)
         have hmw : IntKind.i64.wrap (m : Int) = (m : Int) := i64_nat _ (by omega)
         unfold RedPost at HMUL
         clear hcc0 hcc t3 hgg hI hsl hsl2 hx1 hx3 hmx
         generalize sbTo G z k = S at *
         generalize G.getD m [] = y at *
         generalize ((z.getD k 0).natAbs : Int) = n at *
         generalize z.getD k 0 = x at *
         by_cases hxp : 0 < x
         · rw [if_pos hxp] at HST
           have hxn : ¬ x < 0 := by omega
           clear hxp hx2
           go_wp2_with (first
             | (go_at_call 76; (refine (HSZ.out _).mono ?_); rintro e w' ⟨rfl,hw'⟩; subst hw')
             | (go_at_call 35; (refine (HMUL.out _ _ y (Below.refl _ _) HI.out HMY.out HLY.out).mono ?_); rintro e w2 ⟨A5,c5,rfl,ho,hb⟩))
           go_roundw
           case rel => exact ⟨k + 1,A5,c5,by omega,by go_num,by rw [HST.out],Lib.hid (by rw [HST.out]; exact owns_base ho HB.out.size),Lib.hid (HB.out.trans (hb.mono HB.out.size))⟩
           case measure => simp [intOf]; omega
         · rw [if_neg hxp] at HST
           have hxn : x < 0 := by omega
           have HT := Lib.hid (turned137_any wr (.slice Au y.length cu) y HI.out HMY.out (by have := HLY.out; omega))
           clear hxp hx2
           go_wp2_with (first
             | (go_at_call 76; (refine (HSZ.out _).mono ?_); rintro e w' ⟨rfl,hw'⟩; subst hw')
             | (go_at_call 75; (refine HT.out.mono ?_); rintro e w4 ⟨⟨u4,rfl,hi4⟩,hb4⟩
                have hiy : (inv y).length <= 1000 := by rw [length_inv]; exact HLY.out
                have HM4 := Lib.hid (HMUL.out w4 u4 (inv y) hb4 hi4 (mild_inv' HMY.out) hiy)
                have HB4 := Lib.hid hb4
                obtain ⟨A9,c9,rfl, -⟩ := hi4.open_
                clear hi4 hb4 hiy)
             | (go_at_call 35; (refine HM4.out.mono ?_); rintro e w2 ⟨A5,c5,rfl,ho,hb⟩))
           go_roundw
           case rel => exact ⟨k + 1,A5,c5,by omega,by go_num,by rw [HST.out],Lib.hid (by rw [HST.out]; exact owns_base ho (Nat.le_trans HB.out.size HB4.out.size)),Lib.hid ((HB.out.trans (HB4.out.mono HB.out.size)).trans (hb.mono (Nat.le_trans HB.out.size HB4.out.size)))⟩
           case measure => simp [intOf]; omega
       · obtain rfl : k = z.length := by omega
         rw [<- HS.out] at HO hsl ⊢
         have hn0 : (0 : Int) <= ((sbW G z).length : Int) := Int.natCast_nonneg _
         have hnb : ((sbW G z).length : Int) <= 4000000 := by omega
         clear hsl hsl2
         generalize sbW G z = S at *
         by_cases hS : S.length <= 4000
         · have hS' : ¬ (4000 : Int) < (S.length : Int) := by omega
           have HR : Hid (S.length <= 4000) := Lib.hid hS
           clear hS
           go_wp2_with fail
           go_ret2
           exact ⟨by rw [if_pos HR.out]; exact ⟨A,c,rfl,HO.out⟩,HB.out⟩
         · have hS' : (4000 : Int) < (S.length : Int) := by omega
           have HR : Hid (¬ S.length <= 4000) := Lib.hid hS
           clear hS
           go_wp2_with fail
           go_ret2
           exact ⟨by rw [if_neg HR.out]; rfl,HB.out⟩
end Go.Proofs
namespace Go.Proofs
open Go.RowKit Go.Shelf Go.Maps
theorem run_append_none (w : World) (base : Nat) (t ty e : TypeId) (i : TypeInfo) (ht : Tryz.prog.underlying t = some (.slice e)) (hi : Tryz.prog.info? e = some i) (_hs : i.size = 1)
   (v : Value) (n : Nat) (xs : List Value) (cap : Nat) (hown : w.ownsRow base e 1 v n xs) : (Builtin.append_ #[t,t] ty #[v, .slice none 0 cap]).run Tryz.prog w = .ok v w := by
 rcases hown.2 with ⟨rfl,rfl⟩ | ⟨g,cap',cur,rfl, -,hg,hnc,hcm,hcs,htake⟩
 · simp [Builtin.append_,run_underlying ht,sizeOf,typeInfo,hi,Builtin.lenOf,Builtin.firstCells]
 · simp [Builtin.append_,run_underlying ht,sizeOf,typeInfo,hi,Builtin.lenOf,Builtin.firstCells,hnc,storeCells]
theorem run_app {t ty e : TypeId} {z : Value} {bytes : Nat} (ht : Tryz.prog.underlying t = some (.slice e)) (hi : ∃ i,Tryz.prog.info? e = some i /\ i.zero = some z /\ i.size = 1 /\ i.bytes = bytes) (hz : z.cells.size = 1) (hby : bytes <= 1000)
   (w : World) (base : Nat) (v : Value) (n : Nat) (xs : List Value) (hown : w.ownsRow base e 1 v n xs) (u : Value) (ys : List Value) (hu : Sl w u ys) (h1 : ∀ y ∈ ys,y.oneCell' = true) (hn : n <= 1000000) (hm : ys.length <= 1000000) (hb : base <= w.heap.size) :
   ∃ A' c' w',(Builtin.append_ #[t,t] ty #[v,u]).run Tryz.prog w = .ok (.slice A' (n + ys.length) c') w' /\ w'.ownsRow base e 1 (.slice A' (n + ys.length) c') (n + ys.length) (xs ++ ys) /\
     w.grownBy w' v.ownBlock /\ ((Value.slice A' (n + ys.length) c').ownBlock = v.ownBlock \/ ∃ r,(Value.slice A' (n + ys.length) c').ownBlock = some r /\ w.heap.size <= r) := by
 obtain ⟨i,hi,hz',hs,hb'⟩ := hi
 obtain ⟨A,m,cap,rfl,hl,hc1,hc2,hcells⟩ := hu
 cases A with
 | none =>
   have hm0 : ys = [] := by
     rcases Nat.eq_zero_or_pos m with h0 | h0
     · exact List.length_eq_zero_iff.1 (by omega)
     · obtain ⟨_,_,h, -⟩ := hcells h0; cases h
   subst hm0
   obtain ⟨A',c',rfl⟩ := owns_form hown
   have hm1 : m = 0 := hl
   subst hm1
   exact ⟨A',c',w,run_append_none w base t ty e i ht hi hs _ n xs cap hown,by simpa using hown,World.grownBy.refl w _, .inl rfl⟩
 | some a =>
   obtain ⟨v',w',hr,hown',hg, -,hw⟩ := run_append_own_at (P := Tryz.prog) w base t ty e i z 1 bytes ht hi hz' hs hb' hz (by omega) v n xs hown a m cap ys (by omega) (fun j y hy => by
       have hj := (List.getElem?_eq_some_iff.1 hy).1
       obtain ⟨b,off,ha,hr⟩ := hcells (by omega)
       rw [Option.some.inj ha]
       have h3 := hr j y hy
       rcases Nat.eq_zero_or_pos j with h0 | h0
       · subst h0; simpa [Addr.add] using h3
       · simpa [Addr.add,show j ≠ 0 by omega] using h3) h1 (by unfold maxLen; omega)
     (by have : (n + m) * bytes <= 2000000 * 1000 := Nat.mul_le_mul (by omega) hby
         omega) hb
   obtain ⟨A',c',rfl⟩ := owns_form hown'
   have hm1 : m = ys.length := by omega
   subst hm1
   refine ⟨A',c',w',hr,hown',hg, ?_⟩
   rcases hw with hw | hw
   · exact .inl hw
   · exact .inr ⟨_,hw,Nat.le_refl _⟩
theorem app_ints (ty t : TypeId) (ht : Tryz.prog.underlying t = some (.slice 3)) (w : World) (base : Nat) (v : Value) (xs : List Int) (h : OwnI base w v xs) (u : Value) (ys : List Int) (hu : IntsAt w u ys) (hx : xs.length <= 1000000) (hy : ys.length <= 1000000) (hb : base <= w.heap.size) :
   ∃ A' c' w',(Builtin.append_ #[t,t] ty #[v,u]).run Tryz.prog w = .ok (.slice A' (xs ++ ys).length c') w' /\ OwnI base w' (.slice A' (xs ++ ys).length c') (xs ++ ys) /\
     w.grownBy w' v.ownBlock /\ ((Value.slice A' (xs ++ ys).length c').ownBlock = v.ownBlock \/ ∃ r,(Value.slice A' (xs ++ ys).length c').ownBlock = some r /\ w.heap.size <= r) := by
 obtain ⟨A',c',w',hr,ho,hg,hw⟩ := run_app (ty := ty) ht info3p rfl (by omega) w base v xs.length (ints xs) h u (ints ys) hu.1 (fun y hy => by
   obtain ⟨z, -,rfl⟩ := List.mem_map.1 hy; rfl) hx (by rw [length_ints]; exact hy) hb
 rw [length_ints] at hr ho hw
 refine ⟨A',c',w',by rw [List.length_append]; exact hr, ?_,hg,by rw [List.length_append]; exact hw⟩
 show w'.ownsRow base 3 1 _ (xs ++ ys).length (ints (xs ++ ys))
 rw [ints_app,List.length_append]
 exact ho
end Go.Proofs
namespace Go.Proofs
open Go.RowKit Go.Shelf Go.Proofs.Ct Go.Maps
structure Step (N : Nat) (wr : Nat -> Bool) (us : Nat -> Nat -> Bool) (O : Nat -> Nat -> Prop) (i : Nat) (O' : Nat -> Prop) (w w' : World) : Prop where
 size : w.heap.size <= w'.heap.size
 keep : ∀ k,k < w.heap.size -> (∀ j,j < N -> us i j = true -> wr j = true -> ¬ O j k) -> w'.heap[k]? = w.heap[k]?
 foot : ∀ k,O' k -> k < w'.heap.size /\ (w.heap.size <= k \/ ∃ j,j < N /\ us i j = true /\ O j k /\ (wr i = true -> wr j = true))
section
variable {F : Fence} {n : Nat} {P : Program} {ops : Array Oper} {Q : Exit -> Act -> World -> Prop}
end
end Go.Proofs
namespace Go.Proofs
open Go.RowKit Go.Shelf Go.Proofs.Ct Go.Maps
theorem ints_blk {w : World} {b : Nat} {xs : List Int} (h : w.heap[b]? = some (.cells (ints xs).toArray 3 (0,0))) (hf : Fits xs) {n : Nat} (hn : xs.length = n) (hm : n <= 1000) : IntsAt w (.slice (some ⟨b,0,none⟩) n n) xs := by
 subst hn
 have hl : xs.length <= 9223372036854775807 := by omega
 refine ⟨⟨_,xs.length,xs.length,rfl,by simp [ints],Nat.le_refl _,by simpa [maxLen] using hl,fun _ => ⟨b,0,rfl,fun j u hu => ?_⟩⟩,hf⟩
 rw [cell_of_row _ _ _ _ _ _ h,Nat.zero_add]
 simpa using hu
theorem tab_blk {w : World} {b : Nat} {us : List Value} {xs : List (List Int)} {e : TypeId} (hb : w.heap[b]? = some (.cells us.toArray e (0,0))) {n : Nat} (hn : us.length = n) (hl : us.length = xs.length) (hm : us.length <= 1000) (h : ∀ i,i < xs.length -> IntsAt w (us.getD i undef) (xs.getD i [])) :
   Tab w (.slice (some ⟨b,0,none⟩) n n) xs := by
 subst hn
 have hl9 : us.length <= 9223372036854775807 := by omega
 refine ⟨us,⟨_,us.length,us.length,rfl,rfl,Nat.le_refl _,by simpa [maxLen] using hl9,fun _ => ⟨b,0,rfl,fun j u hu => ?_⟩⟩,hl,fun i hi => ?_⟩
 · rw [cell_of_row _ _ _ _ _ _ hb,Nat.zero_add]
   simpa using hu
 · have hi' : i < us.length := by omega
   refine ⟨us.getD i undef, ?_,h i hi⟩
   simp [List.getD_eq_getElem?_getD,hi']
theorem fits_lit {xs : List Int} (h : (xs.all fun x => decide (-1000 <= x) && decide (x <= 1000)) = true) : Fits xs := fun x hx => by
 have := List.all_eq_true.1 h x hx
 simp at this
 omega
theorem build40s (g : Int) (A : Option Addr) (n c : Nat) (w : World) : (Instr.build 24 #[(0, .int .i64 g),(1, .slice A n c)]).run Tryz.prog w = .ok (.agg #[.int .i64 g, .slice A n c]) w := by kernel_rfl
section
variable {o : Oper} {a : Act} {w w' : World} {n : Nat} {v : Value}
theorem r_build40s (x y : Operand) (g : Int) (A : Option Addr) (m c : Nat) (ho : o.op = .build 24 #[(0,x),(1,y)]) (hx : a.eval x = .int .i64 g) (hy : a.eval y = .slice A m c) : (execOp a.eval o).run Tryz.prog w = .ok (.value (.agg #[.int .i64 g, .slice A m c])) w := by
 have hb := build40s g A m c w
 unfold execOp
 simp only [ho,List.map_toArray,List.map_cons,List.map_nil,hx,hy,Sem.run_bind,hb,Result.andThen_ok]
 rfl
end
inductive SP where
 | eq (v : Value) | ints (l : List Int) | tab (l : List (List Int)) | pres (g : Int) (l : List (List Int)) | any
def SP.holds : SP -> Value -> World -> Prop
 | .eq u,v,_ => v = u
 | .ints l,v,w => IntsAt w v l
 | .tab l,v,w => ∃ A c,v = .slice A l.length c /\ Tab w v l
 | .pres g l,v,w => ∃ A c,v = .agg #[.int .i64 g, .slice A l.length c] /\ Tab w (.slice A l.length c) l
 | .any,_,_ => True
theorem SP.keep {s : SP} {v : Value} {w w' : World} (h : Below w.heap.size w w') : s.holds v w -> s.holds v w' := by
 cases s with
 | eq u => exact id
 | ints l => exact fun k => k.below h
 | tab l => exact fun ⟨A,c,e,k⟩ => ⟨A,c,e,kept_tab.below k h⟩
 | pres g l => exact fun ⟨A,c,e,k⟩ => ⟨A,c,e,kept_tab.below k h⟩
 | any => exact id
section
variable {o : Oper} {a : Act} {w w' : World} {n : Nat} {v : Value}
end
end Go.Proofs
namespace Go.Proofs
open Go.RowKit Go.Shelf Go.Proofs.Ct Go.Maps
def TabS (F : Nat -> Prop) (w : World) (u : Value) (ys : List (List Int)) : Prop := ∃ vs,(∀ w',Ag F w w' -> Sl w' u vs) /\ RowsF F w vs ys
def RdT (F : Nat -> Prop) (w : World) (u : Value) (ys : List (List Int)) : Prop := ∀ w',Ag F w w' -> Tab w' u ys
section
variable {F G : Nat -> Prop} {w w' : World} {u : Value} {ys : List (List Int)}
theorem TabS.keep (h : TabS F w u ys) (ha : Ag F w w') : TabS F w' u ys := by
 obtain ⟨vs,h1,h2⟩ := h
 exact ⟨vs,fun w'' h' => h1 w'' (ha.trans h'),h2.keep ha fun _ h => h⟩
theorem TabS.mono (h : TabS F w u ys) (hg : ∀ k,F k -> G k) : TabS G w u ys := by
 obtain ⟨vs,h1,h2⟩ := h
 exact ⟨vs,fun w' h' => h1 w' fun k hk => h' k (hg k hk),h2.keep (Ag.refl _ _) hg⟩
theorem TabS.tab (h : TabS F w u ys) : Tab w u ys := by
 obtain ⟨vs,h1,h2⟩ := h
 exact ⟨vs,h1 w (Ag.refl _ _),h2.1,fun i hi => let ⟨x,hx,hr⟩ := h2.2 i hi; ⟨x,hx,hr.at_⟩⟩
theorem TabS.rd (h : TabS F w u ys) : RdT F w u ys := fun _ ha => (h.keep ha).tab
theorem RdT.keep (h : RdT F w u ys) (ha : Ag F w w') : RdT F w' u ys := fun w'' h' => h w'' (ha.trans h')
theorem RdT.mono (h : RdT F w u ys) (hg : ∀ k,F k -> G k) : RdT G w u ys := fun w' h' => h w' fun k hk => h' k (hg k hk)
theorem RdT.tab (h : RdT F w u ys) : Tab w u ys := h w (Ag.refl _ _)
theorem TabS.of_tab (h : Tab w u ys) : TabS (fun k => k < w.heap.size) w u ys := by
 obtain ⟨vs,h1,h2,h3⟩ := h
 exact ⟨vs,fun w' ha => h1.keep (cell_blocks ha),h2,fun i hi => let ⟨x,hx,hr⟩ := h3 i hi; ⟨x,hx,IntsF.of_at hr⟩⟩
theorem TabS.of_own {e : TypeId} {base : Nat} (h : OwnT e base F w u ys) (hv : ∀ r,u.ownBlock = some r -> G r) (hg : ∀ k,F k -> G k) : TabS G w u ys := by
 obtain ⟨vs,h1,h2⟩ := h
 exact ⟨vs,fun w' ha => sl_of_owns (owns_keep h1 fun r hr => ha r (hv r hr)),h2.keep (Ag.refl _ _) hg⟩
end
inductive FP where
 | any | eq (v : Value) | ints (l : List Int) | tab (l : List (List Int)) | rd (l : List (List Int)) | own (l : List Int) | ownT (l : List (List Int)) | box (e : TypeId) (cs : Array Value) | enum (t : List (List Int)) (a b c : Int) | tup (l : List Int) (e : Int) | tupT (l : List (List Int)) (e : Int)
def Fb (base : Nat) (O : Nat -> Prop) : Nat -> Prop := fun k => k < base \/ O k
def FP.holds (base : Nat) : FP -> Value -> (Nat -> Prop) -> World -> Prop
 | .any,_,_,_ => True
 | .eq u,v,_,_ => v = u
 | .ints l,v,O,w => ∃ A c,v = .slice A l.length c /\ IntsF (Fb base O) w (.slice A l.length c) l
 | .tab l,v,O,w => ∃ A c,v = .slice A l.length c /\ TabS (Fb base O) w (.slice A l.length c) l
 | .rd l,v,O,w => ∃ A c,v = .slice A l.length c /\ RdT (Fb base O) w (.slice A l.length c) l
 | .own l,v,O,w => ∃ A c,v = .slice A l.length c /\ OwnI base w (.slice A l.length c) l /\ ∀ r,(Value.slice A l.length c).ownBlock = some r -> O r
 | .ownT l,v,O,w => ∃ A c F,v = .slice A l.length c /\ OwnT 36 base F w (.slice A l.length c) l /\ (∀ k,F k -> Fb base O k /\ k < w.heap.size /\ (Value.slice A l.length c).ownBlock ≠ some k) /\ ∀ r,(Value.slice A l.length c).ownBlock = some r -> O r
 | .box e cs,v,O,w => ∃ q,v = .pointer (some ⟨q,0,none⟩) /\ O q /\ w.heap[q]? = some (.cells cs e (0,0))
 | .enum t a b c,v,O,w => ∃ A n,v = .tuple #[.slice A t.length n, .agg #[.int .i64 a, .int .i64 b, .int .i64 0], .int .i64 c] /\ RdT (Fb base O) w (.slice A t.length n) t
 | .tup l e,v,O,w => ∃ A n,v = .tuple #[.slice A l.length n, .int .i64 e] /\ IntsF (Fb base O) w (.slice A l.length n) l
 | .tupT l e,v,O,w => ∃ A n,v = .tuple #[.slice A l.length n, .int .i64 e] /\ RdT (Fb base O) w (.slice A l.length n) l
section
variable {base : Nat} {O O' : Nat -> Prop} {W0 w w' : World} {v : Value}
theorem ag_fb (_hb : W0.heap.size = base) (h1 : Below base W0 w) (h2 : Below base W0 w') (h : ∀ k,O k -> w'.heap[k]? = w.heap[k]?) : Ag (Fb base O) w w' := fun k hk => by
 rcases hk with hk | hk
 · rw [h1.block k (by omega),h2.block k (by omega)]
 · exact h k hk
theorem FP.keep {p : FP} (hb : W0.heap.size = base) (h1 : Below base W0 w) (h2 : Below base W0 w') (hs : w.heap.size <= w'.heap.size) (h : ∀ k,O k -> w'.heap[k]? = w.heap[k]?) : p.holds base v O w -> p.holds base v O w' := by
 have ha := ag_fb hb h1 h2 h
 cases p with
 | any => exact id
 | eq u => exact id
 | ints l => exact fun ⟨A,c,e,k⟩ => ⟨A,c,e,k.keep ha⟩
 | tab l => exact fun ⟨A,c,e,k⟩ => ⟨A,c,e,k.keep ha⟩
 | rd l => exact fun ⟨A,c,e,k⟩ => ⟨A,c,e,k.keep ha⟩
 | own l => exact fun ⟨A,c,e,k,k2⟩ => ⟨A,c,e,owns_keep k fun r hr => h r (k2 r hr),k2⟩
 | ownT l => exact fun ⟨A,c,F,e,k,k2,k3⟩ => ⟨A,c,F,e,k.keep (fun r hr => h r (k3 r hr)) (fun x hx => ha x (k2 x hx).1) (fun _ h => h),fun x hx => ⟨(k2 x hx).1,Nat.lt_of_lt_of_le (k2 x hx).2.1 hs,(k2 x hx).2.2⟩,k3⟩
 | box e cs => exact fun ⟨q,e,k,k2⟩ => ⟨q,e,k,(h q k).trans k2⟩
 | enum t a b c => exact fun ⟨A,n,e,k⟩ => ⟨A,n,e,k.keep ha⟩
 | tup l x => exact fun ⟨A,n,e,k⟩ => ⟨A,n,e,k.keep ha⟩
 | tupT l x => exact fun ⟨A,n,e,k⟩ => ⟨A,n,e,k.keep ha⟩
theorem FP.mono {p : FP} (hO : ∀ k,O k -> O' k) : p.holds base v O w -> p.holds base v O' w := by
 have hF : ∀ k,Fb base O k -> Fb base O' k := fun k hk => hk.imp id (hO k)
 cases p with
 | any => exact id
 | eq u => exact id
 | ints l => exact fun ⟨A,c,e,k⟩ => ⟨A,c,e,k.mono hF⟩
 | tab l => exact fun ⟨A,c,e,k⟩ => ⟨A,c,e,k.mono hF⟩
 | rd l => exact fun ⟨A,c,e,k⟩ => ⟨A,c,e,k.mono hF⟩
 | own l => exact fun ⟨A,c,e,k,k2⟩ => ⟨A,c,e,k,fun r hr => hO r (k2 r hr)⟩
 | ownT l => exact fun ⟨A,c,F,e,k,k2,k3⟩ => ⟨A,c,F,e,k,fun x hx => ⟨hF x (k2 x hx).1,(k2 x hx).2⟩,fun r hr => hO r (k3 r hr)⟩
 | box e cs => exact fun ⟨q,e,k,k2⟩ => ⟨q,e,hO q k,k2⟩
 | enum t a b c => exact fun ⟨A,n,e,k⟩ => ⟨A,n,e,k.mono hF⟩
 | tup l x => exact fun ⟨A,n,e,k⟩ => ⟨A,n,e,k.mono hF⟩
 | tupT l x => exact fun ⟨A,n,e,k⟩ => ⟨A,n,e,k.mono hF⟩
end
def Mx (N : Nat) (wr : Nat -> Bool) (us : Nat -> Nat -> Bool) (O : Nat -> Nat -> Prop) (i : Nat) (w w' : World) : Nat -> Prop := fun k => k < w'.heap.size /\ (w.heap.size <= k \/ ∃ j,j < N /\ us i j = true /\ O j k /\ (wr i = true -> wr j = true))
section
variable {N : Nat} {wr : Nat -> Bool} {us : Nat -> Nat -> Bool} {O : Nat -> Nat -> Prop} {i : Nat} {w w' : World}
theorem Step.below (h : Below w.heap.size w w') : Step N wr us O i (Mx N wr us O i w w') w w' := ⟨h.size,fun k hk _ => h.block k hk,fun _ h => h⟩
theorem Step.same : Step N wr us O i (Mx N wr us O i w w) w w := Step.below (Below.refl _ _)
theorem Step.grown {row : Option Nat} (h : w.grownBy w' row) (hr : ∀ r,row = some r -> ∃ j,j < N /\ us i j = true /\ wr j = true /\ O j r) : Step N wr us O i (Mx N wr us O i w w') w w' := ⟨h.size,fun k hk hn => h.block k hk fun e => by
 obtain ⟨j,h1,h2,h3,h4⟩ := hr k e.symm
 exact hn j h1 h2 h3 h4,fun _ h => h⟩
theorem Mx.of {j k : Nat} (hj : j < N) (hu : us i j = true) (hw : wr i = true -> wr j = true) (hO : O j k) (hk : k < w'.heap.size) : Mx N wr us O i w w' k := ⟨hk, .inr ⟨j,hj,hu,hO,hw⟩⟩
end
theorem grown_below {w w' W0 : World} {base : Nat} {row : Option Nat} (hb : W0.heap.size = base) (h0 : Below base W0 w) (h : w.grownBy w' row) (hr : ∀ r,row = some r -> base <= r) : Below base W0 w' :=
 ⟨h.os.trans h0.os,h.tape.trans h0.tape,h.output.trans h0.output,Nat.le_trans h0.size h.size,fun k hk => (h.block k (by have := h0.size; omega) fun e => by have := hr k e.symm; omega).trans (h0.block k hk)⟩
section
variable {o : Oper} {a : Act} {w w' : World} {n : Nat} {v : Value}
theorem r_extract (k : Nat) (x : Operand) (vs : Array Value) (ho : o.op = .extract x k) (hx : a.eval x = .tuple vs) (hk : vs[k]? = some v) : (execOp a.eval o).run Tryz.prog w = .ok (.value v) w := by
 unfold execOp
 simp only [ho,hx]
 simp [go_sem,hk]
theorem own_new (w : World) : OwnI w.heap.size (w.alloc (.cells #[] 3)) (.slice (some ⟨w.heap.size,0,none⟩) 0 0) [] := by
 refine ⟨rfl, .inr ⟨w.heap.size,0, #[],rfl,Nat.le_refl _,heap_alloc_new w _,Nat.le_refl _,by simp [maxLen],rfl,by simp [ints]⟩⟩
end
theorem FP.app_ints {t ty : TypeId} (ht : Tryz.prog.underlying t = some (.slice 3)) {w : World} {base : Nat} {O1 : Nat -> Prop} {v : Value} {xs : List Int} (h : (FP.own xs).holds base v O1 w) {u : Value} {ys : List Int} (hu : IntsAt w u ys)
   (hx : xs.length <= 1000000) (hy : ys.length <= 1000000) (hb : base <= w.heap.size) :
   ∃ A' c' w',(Builtin.append_ #[t,t] ty #[v,u]).run Tryz.prog w = .ok (.slice A' (xs ++ ys).length c') w' /\ w.grownBy w' v.ownBlock /\ (∀ r,v.ownBlock = some r -> O1 r /\ base <= r) /\
     ∀ O' : Nat -> Prop,(∀ k,O1 k -> k < w.heap.size -> O' k) -> (∀ k,w.heap.size <= k -> k < w'.heap.size -> O' k) -> (FP.own (xs ++ ys)).holds base (.slice A' (xs ++ ys).length c') O' w' := by
 obtain ⟨A,c,rfl,o1,r1⟩ := h
 obtain ⟨A',c',w',hr,ho,hg,hw⟩ := Go.Proofs.app_ints ty t ht w base _ xs o1 u ys hu hx hy hb
 refine ⟨A',c',w',hr,hg,fun r hr => ⟨r1 r hr,(owns_block o1 r hr).1⟩,fun O' p1 p3 => ⟨A',c',rfl,ho,fun r hr => ?_⟩⟩
 rcases hw with hw | ⟨q,hw,hwq⟩
 · rw [hw] at hr
   exact p1 r (r1 r hr) (owns_lt o1 hr)
 · have e : q = r := by rw [hw] at hr; exact Option.some.inj hr
   subst e
   exact p3 q hwq (owns_lt ho hw)
end Go.Proofs
namespace Go.Proofs
open Go.RowKit Go.Shelf Go.Proofs.Ct Go.Maps
section
variable {o : Oper} {a : Act} {w w' : World} {n : Nat} {next : Act -> World -> Prop} {Q : Exit -> Act -> World -> Prop} {v : Value}
theorem wpW_skip (hrun : (execOp a.eval o).run Tryz.prog w = .ok .skip w') (h : next (a.put o.dst undef) w') : o.wpIn Fence.wide n Tryz.prog a w next Q :=
 ⟨fun _ _ => trivial,by rw [Fence.wide_round,Oper.semAt_none,hrun]; exact h⟩
theorem r_nil (x : Operand) (ad : Addr) (ho : o.op = .nilCheck x) (hx : a.eval x = .pointer (some ad)) : (execOp a.eval o).run Tryz.prog w = .ok (.value (.pointer (some ad))) w := by
 unfold execOp; simp only [ho,hx]; rfl
theorem agg3 (w : World) : (isAgg 3).run Tryz.prog w = .ok false w := by kernel_rfl
theorem agg24 (w : World) : (isAgg 35).run Tryz.prog w = .ok false w := by kernel_rfl
theorem r_load1 (T : TypeId) (hT : ∀ w,(isAgg T).run Tryz.prog w = .ok false w) (x : Operand) (ad : Addr) (ho : o.op = .load T x) (hx : a.eval x = .pointer (some ad)) (hc : w.cell? ad = some v) : (execOp a.eval o).run Tryz.prog w = .ok (.value v) w := by
 unfold execOp
 simp only [ho,hx,Instr.loadAt,Instr.sureAddr,loadVar,Sem.run_bind,Sem.run_pure,Result.andThen_ok,hT]
 simp [go_sem,hc]
theorem size3 (w : World) : (sizeOf 3).run Tryz.prog w = .ok 1 w := by kernel_rfl
theorem r_idx {T : Nat} (x y : Operand) (ad i : Value) (ho : o.op = .indexAddr T x y) (hx : a.eval x = ad) (hy : a.eval y = i) (hf : (Instr.indexAt T ad i).run Tryz.prog w = .ok v w) : (execOp a.eval o).run Tryz.prog w = .ok (.value v) w := by
 unfold execOp; simp only [ho,hx,hy,Sem.run_bind,hf,Result.andThen_ok]; rfl
theorem r_store1 (T : TypeId) (x y : Operand) (ad : Addr) (u v : Value) (ho : o.op = .store T x y) (hx : a.eval x = .pointer (some ad)) (hy : a.eval y = v) (_h1 : ad.spot = none) (_hc : w.cell? ad = some u) (_hf : w.frozen? ad = false) (ht : (Instr.storeAt T (.pointer (some ad)) v).run Tryz.prog w = .ok () (w.setCell ad v)) : (execOp a.eval o).run Tryz.prog w = .ok .skip (w.setCell ad v) := by
 unfold execOp
 simp only [ho,hx,hy,Sem.run_bind,ht,Result.andThen_ok]
 rfl
end
end Go.Proofs
namespace Go.Proofs
open Go.RowKit Go.Shelf Go.Proofs.Ct Go.Maps
structure BoxP (b wd lim : Nat) (w : World) (s : St) (vr vp vq : Value) : Prop where
 box : w.heap[b]? = some (.cells #[.int .i64 (wd : Int), .int .i64 (lim : Int),vr,vp,vq, .int .i64 s.live, .int .i64 s.most] 93 (0,0))
theorem BoxP.cells {b wd lim : Nat} {w : World} {s : St} {vr vp vq : Value} (h : BoxP b wd lim w s vr vp vq) : w.cell? ⟨b,0,none⟩ = some (.int .i64 (wd : Int)) /\ w.cell? ⟨b,1,none⟩ = some (.int .i64 (lim : Int)) /\ w.cell? ⟨b,2,none⟩ = some vr /\ w.cell? ⟨b,3,none⟩ = some vp /\ w.cell? ⟨b,4,none⟩ = some vq /\ w.cell? ⟨b,5,none⟩ = some (.int .i64 s.live) /\ w.cell? ⟨b,6,none⟩ = some (.int .i64 s.most) := by
 have hc := h.box
 refine ⟨?_, ?_, ?_, ?_, ?_, ?_, ?_⟩ <;> (rw [cell_of_row _ _ _ _ _ _ hc]; rfl)
theorem BoxP.below {b wd lim : Nat} {w w' : World} {s : St} {vr vp vq : Value} (h : BoxP b wd lim w s vr vp vq) (hb : Below w.heap.size w w') : BoxP b wd lim w' s vr vp vq := ⟨(hb.block _ (Array.getElem?_eq_some_iff.1 h.box).1).trans h.box⟩
theorem BoxP.other {b wd lim : Nat} {w : World} {s : St} {vr vp vq : Value} (h : BoxP b wd lim w s vr vp vq) {g : Nat} {T : TypeId} (hg : ∃ C,w.heap[g]? = some (.cells C T (0,0))) (hT : T ≠ 93) (k : Nat) (v : Value) : BoxP b wd lim (w.setCell ⟨g,k,none⟩ v) s vr vp vq :=
 ⟨(Below.heap_setCell w ⟨g,k,none⟩ v b (fun e => by
   obtain ⟨C,hC⟩ := hg
   have e' : b = g := e
   have := h.box
   rw [e',hC] at this
   cases this
   exact hT rfl)).trans h.box⟩
def StP (base b wd lim : Nat) (w : World) (s : St) : Prop := base <= b /\ ∃ P vr vp vq bl cs,BoxP b wd lim w s vr vp vq /\ CoreM base w s P vr vp vq bl cs
end Go.Proofs
namespace Go.Proofs
open Go.RowKit Go.Shelf Go.Proofs.Ct Go.Maps
theorem box_set {w : World} {b : Nat} {C : Array Value} {T : TypeId} (hb : w.heap[b]? = some (.cells C T (0,0))) (k : Nat) (v : Value) : (w.setCell ⟨b,k,none⟩ v).heap[b]? = some (.cells (C.setIfInBounds k v) T (0,0)) := by
 simp [World.setCell,Array.getElem?_modify,hb]
section
variable {b wd lim : Nat} {w : World} {s s' : St} {vr vp vq : Value}
theorem BoxP.upd4 (h : BoxP b wd lim w s vr vp vq) (v : Value) (hl : s'.live = s.live) (hm : s'.most = s.most) : BoxP b wd lim (w.setCell ⟨b,4,none⟩ v) s' vr vp v := ⟨by rw [box_set h.box]; simp [hl,hm]⟩
theorem BoxP.frozen (h : BoxP b wd lim w s vr vp vq) (k : Nat) : w.frozen? ⟨b,k,none⟩ = false := by simp [World.frozen?,h.box]
theorem BoxP.lt (h : BoxP b wd lim w s vr vp vq) : b < w.heap.size := (Array.getElem?_eq_some_iff.1 h.box).1
theorem BoxP.of (h : BoxP b wd lim w s vr vp vq) (hl : s'.live = s.live) (hm : s'.most = s.most) : BoxP b wd lim w s' vr vp vq := ⟨by rw [hl,hm]; exact h.box⟩
end
end Go.Proofs
namespace Go.Proofs
open Go.RowKit Go.Shelf Go.Proofs.Ct Go.Maps
theorem BoxP.grown {b wd lim : Nat} {w w' : World} {s : St} {vr vp vq : Value} (h : BoxP b wd lim w s vr vp vq) {o : Option Nat} (hg : w.grownBy w' o) (hn : o ≠ some b) : BoxP b wd lim w' s vr vp vq := ⟨(hg.block b h.lt (Ne.symm hn)).trans h.box⟩
end Go.Proofs
