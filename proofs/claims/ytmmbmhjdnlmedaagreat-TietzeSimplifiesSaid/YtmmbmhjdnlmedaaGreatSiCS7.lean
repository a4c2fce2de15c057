/- The state of an enumeration in memory: rows that are written, parents, a queue; rewrite.Rewrite; Presentations: which are valid, plainly; the letters of a word; pres.Check; The references' checks of a presentation; Columns of letters; where a word leads; fine; Complete; Holds: the plain law; the closures of coset.Holds; coset.Holds; The reference's system in memory: its box, its rows of numbers; The reference's system under construction; The reference's rewrite of a system; rewrite.Present: what it answers; structs of type 40; the relators under way; rewrite.Present; The law of chapter 21: same, half, awake; cayleyref17.Same; the walk of RewritePresents; A region that draws its order, with guarded operations: each operation is shown once. -/
import Derived.Test.YtmmbmhjdnlmedaaGreatSiCS6
import Derived.Test.YtmmbmhjdnlmedaaGreatSiCS2
import Derived.Test.YtmmbmhjdnlmedaaGreatSiCS3
import Derived.Deep.MidRow
import Derived.Deep.RegionHeld3
namespace Go.Proofs
open Go.RowKit Go.Shelf Go.Proofs.Ct Go.Maps
def nats (l : List Nat) : List Int := l.map Int.ofNat
theorem length_nats (l : List Nat) : (nats l).length = l.length := by simp [nats]
theorem nats_getD (l : List Nat) (k : Nat) : (nats l).getD k 0 = (l.getD k 0 : Int) := by
 unfold nats
 by_cases h : k < l.length
 · simp [List.getD_eq_getElem?_getD,h]
 · simp [List.getD_eq_getElem?_getD,List.getElem?_eq_none (by omega : l.length <= k)]
theorem ownI_cell {base : Nat} {w : World} {v : Value} {xs : List Int} (h : OwnI base w v xs) (hn : 0 < xs.length) : ∃ g c,v = .slice (some ⟨g,0,none⟩) xs.length c /\ base <= g /\ g < w.heap.size /\ (∀ k,k < xs.length -> w.cell? ⟨g,k,none⟩ = some (.int .i64 (xs.getD k 0))) /\ ∀ k,w.frozen? ⟨g,k,none⟩ = false := by
 obtain ⟨hl,h⟩ := h
 rcases h with ⟨rfl,h0⟩ | ⟨g,cap,cur,rfl,hb,hc,h1,hm,hs,ht⟩
 · omega
 · refine ⟨g,cap,rfl,hb,(Array.getElem?_eq_some_iff.1 hc).1,fun k hk => ?_,fun k => by simp [World.frozen?,hc]⟩
   rw [cell_of_row _ _ _ _ _ _ hc]
   have h2 : (cur.toList.take (xs.length * 1))[k]? = (ints xs)[k]? := by rw [ht]
   rw [List.getElem?_take,if_pos (by omega)] at h2
   simpa [ints,hk,List.getD_eq_getElem?_getD] using h2
structure CoreM (base : Nat) (w : World) (s : St) (P : List Int) (vr vp vq : Value) (bl cs : Nat -> Nat) : Prop where
 out : w.ownsRow base 35 1 vr s.t.length ((List.range s.t.length).map fun i => .slice (some ⟨bl i,0,none⟩) (s.t.row i).length (cs i))
 row : ∀ i,i < s.t.length -> base <= bl i /\ XsAt w (bl i) (s.t.row i) /\ (s.t.row i).length <= cs i /\ cs i <= 9223372036854775807
 inj : ∀ i j,i < s.t.length -> j < s.t.length -> bl i = bl j -> i = j
 par : OwnI base w vp P
 que : OwnI base w vq (nats s.q)
 sepP : ∀ i,i < s.t.length -> vp.ownBlock ≠ some (bl i)
 sepQ : ∀ i,i < s.t.length -> vq.ownBlock ≠ some (bl i)
 pq : ∀ r,vp.ownBlock = some r -> vq.ownBlock ≠ some r
 root : Roots P s
section
variable {base : Nat} {w w' : World} {s : St} {P : List Int} {vr vp vq : Value} {bl cs : Nat -> Nat}
theorem CoreM.keep (h : CoreM base w s P vr vp vq bl cs) (hk : ∀ k C e,base <= k -> w.heap[k]? = some (.cells C e (0,0)) -> (e = 3 \/ e = 35) -> w'.heap[k]? = w.heap[k]?) : CoreM base w' s P vr vp vq bl cs := by
 refine ⟨owns_keep h.out fun r hr => ?_,fun i hi => ?_,h.inj,owns_keep h.par fun r hr => ?_,owns_keep h.que fun r hr => ?_,h.sepP,h.sepQ,h.pq,h.root⟩
 · obtain ⟨a,C,hC⟩ := owns_block h.out r hr
   exact hk r C 35 a hC (.inr rfl)
 · obtain ⟨a,b,c⟩ := h.row i hi
   obtain ⟨C,hC, -⟩ := id b
   exact ⟨a,b.keep (hk _ C 3 a hC (.inl rfl)),c⟩
 · obtain ⟨a,C,hC⟩ := owns_block h.par r hr
   exact hk r C 3 a hC (.inl rfl)
 · obtain ⟨a,C,hC⟩ := owns_block h.que r hr
   exact hk r C 3 a hC (.inl rfl)
theorem CoreM.below (h : CoreM base w s P vr vp vq bl cs) (hb : Below w.heap.size w w') : CoreM base w' s P vr vp vq bl cs :=
 h.keep fun k _C _e _ hC _ => hb.block k (Array.getElem?_eq_some_iff.1 hC).1
theorem CoreM.other (h : CoreM base w s P vr vp vq bl cs) {b : Nat} {C0 : Array Value} {T : TypeId} (hb : w.heap[b]? = some (.cells C0 T (0,0))) (h3 : T ≠ 3) (h24 : T ≠ 35) (k : Nat) (v : Value) : CoreM base (w.setCell ⟨b,k,none⟩ v) s P vr vp vq bl cs :=
 h.keep fun j C e _ hC he => Below.heap_setCell w ⟨b,k,none⟩ v j fun e' => by
   have e'' : j = b := e'
   rw [e'',hb] at hC
   cases hC
   rcases he with he | he <;> simp_all
theorem CoreM.len (h : CoreM base w s P vr vp vq bl cs) : P.length = s.t.length := h.root.len
theorem CoreM.at_ (h : CoreM base w s P vr vp vq bl cs) {r c : Nat} (hr : r < s.t.length) (hc : c < (s.t.row r).length) : ∃ g cap,vr = .slice (some ⟨g,0,none⟩) s.t.length cap /\ w.cell? ⟨g,r,none⟩ = some (.slice (some ⟨bl r,0,none⟩) (s.t.row r).length (cs r)) /\ w.cell? ⟨bl r,c,none⟩ = some (.int .i64 (s.t.at r c)) /\ w.frozen? ⟨bl r,c,none⟩ = false := by
 obtain ⟨-,hX, -⟩ := h.row r hr
 obtain ⟨hl,ho⟩ := h.out
 rcases ho with ⟨-,h0⟩ | ⟨g,cap,cur,rfl,hb,hC,h1,hm,hs,ht⟩
 · omega
 · refine ⟨g,cap,rfl, ?_,hX.cell hc,hX.frozen c⟩
   rw [cell_of_row _ _ _ _ _ _ hC]
   have h2 : (cur.toList.take (s.t.length * 1))[r]? = ((List.range s.t.length).map fun i => Value.slice (some ⟨bl i,0,none⟩) (s.t.row i).length (cs i))[r]? := by rw [ht]
   rw [List.getElem?_take,if_pos (by omega)] at h2
   simpa [hr] using h2
theorem CoreM.set (h : CoreM base w s P vr vp vq bl cs) {r c : Nat} (hr : r < s.t.length) (hc : c < (s.t.row r).length) (z : Int) : CoreM base (w.setCell ⟨bl r,c,none⟩ (.int .i64 z)) { s with t := set2 s.t r c z } P vr vp vq bl cs := by
 have hne : ∀ k,k ≠ bl r -> (w.setCell ⟨bl r,c,none⟩ (.int .i64 z)).heap[k]? = w.heap[k]? := fun k hk => Below.heap_setCell w ⟨bl r,c,none⟩ _ k hk
 obtain ⟨-,hXr, -⟩ := h.row r hr
 obtain ⟨Cr,hCr, -⟩ := id hXr
 refine ⟨?_,fun i hi => ?_,fun i j hi hj => h.inj i j (by simpa [length_set2] using hi) (by simpa [length_set2] using hj),owns_keep h.par fun k hk => hne k (fun e => h.sepP r hr (by rw [hk,e])),owns_keep h.que fun k hk => hne k (fun e => h.sepQ r hr (by rw [hk,e])),fun i hi => h.sepP i (by simpa [length_set2] using hi),fun i hi => h.sepQ i (by simpa [length_set2] using hi),h.pq,h.root.of_rep (length_set2 _ _ _ _) rfl⟩
 · simp only [length_set2,rowlen_set2]
   refine owns_keep h.out fun k hk => hne k fun e => ?_
   obtain ⟨-,C,hC⟩ := owns_block h.out k hk
   rw [e,hCr] at hC
   cases hC
 · simp only [length_set2] at hi
   obtain ⟨a,b,d⟩ := h.row i hi
   simp only [rowlen_set2]
   refine ⟨a, ?_,d⟩
   rw [row_set2]
   by_cases e : r = i
   · subst e
     rw [if_pos ⟨rfl,hr⟩]
     exact hXr.set hc z
   · rw [if_neg (fun h' => e h'.1)]
     exact b.keep (hne _ fun e' => e (h.inj r i hr hi e'.symm))
end
end Go.Proofs
namespace Go.Proofs
open Go.RowKit Go.Shelf Go.Proofs.Ct Go.Maps
def letBad (g : Nat) (x : Int) : Bool := decide (x = 0) || decide (x < -(g : Int)) || decide ((g : Int) < x)
theorem letsOk_of {g : Nat} {w : List Int} (h : w.any (letBad g) = false) : LetsOk g w := fun x hx => by
 have := List.any_eq_false.1 h x hx
 unfold letBad at this
 simp at this
 omega
end Go.Proofs
namespace Go.Proofs
open Go.RowKit Go.Shelf Go.Proofs.Ct Go.Maps
def presBad (g : Nat) (rels : List W) (k : Nat) : Int := if 4000 < sumTo rels (k + 1) then 4 else if (rels.getD k []).any (letBad g) = true then 2 else 0
def presE (g : Int) (rels : List W) : Int :=
 if g < 1 \/ 16 < g then 2 else if 100 < rels.length then 4 else
 match first (fun k => decide (presBad g.toNat rels k ≠ 0)) rels.length with
 | some k => presBad g.toNat rels k
 | none => 0
theorem presE_some {g : Nat} {rels : List W} (hg : 1 <= g /\ g <= 16) (hl : rels.length <= 100) {k : Nat} (hk : k < rels.length) (hz : ∀ j,j < k -> presBad g rels j = 0) (hb : presBad g rels k ≠ 0) : presE g rels = presBad g rels k := by
 unfold presE
 rw [if_neg (by omega),if_neg (by omega),first_some hk (by simpa using hb) (fun j hj => by simpa using hz j hj)]
 rfl
theorem presE_none {g : Nat} {rels : List W} (hg : 1 <= g /\ g <= 16) (hl : rels.length <= 100) (hz : ∀ j,j < rels.length -> presBad g rels j = 0) : presE g rels = 0 := by
 unfold presE
 rw [if_neg (by omega),if_neg (by omega),first_none (fun j hj => by simpa using hz j hj)]
theorem pred121 (g B : Nat) (vr : Value) (w : World) (hg : g <= 16) (hc : w.cell? ⟨B,0,none⟩ = some (.int .i64 (g : Int))) (_hc1 : w.cell? ⟨B,1,none⟩ = some vr) :
   PredW 63 #[.pointer (some ⟨B,0,none⟩)] (fun x => -9223372036854775808 <= x /\ x <= 9223372036854775807) (letBad g) w := fun x q hx => by
 have hcq : (w.drewN q).cell? ⟨B,0,none⟩ = some (.int .i64 (g : Int)) := hc
 show Calls Tryz.prog 63 #[.int .i64 x, .pointer (some ⟨B,0,none⟩)] (w.drewN q) _
 have h0 : letBad g x = (decide (x = 0) || decide (x < -(g : Int)) || decide ((g : Int) < x)) := rfl
 have H0 := Lib.hid h0
 clear h0
 generalize hW : w.drewN q = W at *
 have HW := Lib.hid hW
 clear hW
 have hg0 : (0 : Int) <= (g : Int) := Int.natCast_nonneg _
 have hg1 : (g : Int) <= 16 := by omega
 by_cases h1 : x = 0
 · subst h1
   go_enter Tryz.func63,Tryz.ntmps63
   go_wp2_with fail
   go_ret
   exact ⟨ret_bool (by rw [H0.out]; simp),q,HW.out.symm⟩
 · have d1 : (x == 0) = false := by simpa using h1
   by_cases h2 : x < -(g : Int)
   · go_enter Tryz.func63,Tryz.ntmps63
     go_wp2_with fail
     go_ret
     exact ⟨ret_bool (by rw [H0.out]; simp [h2]),q,HW.out.symm⟩
   · by_cases h3 : (g : Int) < x
     · go_enter Tryz.func63,Tryz.ntmps63
       go_wp2_with fail
       go_ret
       exact ⟨ret_bool (by rw [H0.out]; simp [h3]),q,HW.out.symm⟩
     · go_enter Tryz.func63,Tryz.ntmps63
       go_wp2_with fail
       go_ret
       exact ⟨ret_bool (by rw [H0.out]; simp [h1,h2,h3]),q,HW.out.symm⟩
theorem eg121 : ∀ args w,(callFunc 63 args).run Tryz.prog w = .ok (.enter 63 args) w := enters_of Tryz.func63 (by kernel_rfl) rfl
set_option maxRecDepth 100000 in
set_option maxHeartbeats 400000 in
theorem letters122_any (w : World) (g : Nat) (v : Value) (ws : List Int) (hg : g <= 16) (hu : IntsAt w v ws) : Calls Tryz.prog 72 #[.int .i64 (g : Int),v] w fun e w' => e = .returned (.bool (!(ws.any (letBad g)))) /\ w' = w := by
 obtain ⟨A,c,rfl,hu1,hu2,hu3⟩ := hu.open_
 have HC := Lib.hid hu3
 have hg0 : (0 : Int) <= (g : Int) := Int.natCast_nonneg _
 have hg1 : (g : Int) <= 16 := by omega
 clear hu hu3
 go_enter Tryz.func72,Tryz.ntmps72
 go_wp2_with fail
 go_loopw [5] (fun i wr => ∃ k : Nat,i = .int .i64 k /\ k <= ws.length /\ Hid (∀ j,j < k -> letBad g (ws.getD j 0) = false) /\ wr = w) (fun i _ => ws.length - (intOf i).toNat)
 case atStart => exact ⟨0,rfl,by omega,Lib.hid fun j hj => absurd hj (by omega),rfl⟩
 case round =>
   obtain ⟨k,rfl,hk,HZ1,rfl⟩ := hrel
   have hk0 : (0 : Int) <= (k : Int) := Int.natCast_nonneg _
   by_cases hlt : k < ws.length
   · have hlt' : (k : Int) < (ws.length : Int) := by omega
     obtain ⟨bw,ow,rfl,hcc⟩ := HC.out (by omega)
     have hck := hcc k hlt
     have HNX : Hid (letBad g (ws.getD k 0) = false -> ∀ j,j < k + 1 -> letBad g (ws.getD j 0) = false) := Lib.hid fun h => all_succ HZ1.out h
     have HBD : Hid (letBad g (ws.getD k 0) = true -> ws.any (letBad g) = true) := Lib.hid fun h => any_true_of hlt h
     have h0 : letBad g (ws.getD k 0) = (decide (ws.getD k 0 = 0) || decide (ws.getD k 0 < -(g : Int)) || decide ((g : Int) < ws.getD k 0)) := rfl
     have H0 := Lib.hid h0
     clear hcc h0
     generalize letBad g (ws.getD k 0) = lb at *
     generalize ws.getD k 0 = x at *
     by_cases e1 : x = 0
     · have HZ := Lib.hid (HBD.out (by rw [H0.out]; simp [e1]))
       have d1 : (x == 0) = true := by simpa using e1
       clear e1
       go_wp2_with fail
       go_ret
       exact ⟨ret_bool (by rw [HZ.out]; rfl),(by first | trivial | rfl)⟩
     · have d1 : (x == 0) = false := by simpa using e1
       by_cases e2 : (g : Int) < x
       · have HZ := Lib.hid (HBD.out (by rw [H0.out]; simp [e2]))
         clear e1
         go_wp2_with fail
         go_ret
         exact ⟨ret_bool (by rw [HZ.out]; rfl),(by first | trivial | rfl)⟩
       · by_cases e3 : x < -(g : Int)
         · have HZ := Lib.hid (HBD.out (by rw [H0.out]; simp [e3]))
           clear e1
           go_wp2_with fail
           go_ret
           exact ⟨ret_bool (by rw [HZ.out]; rfl),(by first | trivial | rfl)⟩
         · have HZ2 := Lib.hid (HNX.out (by rw [H0.out]; simp [e1,e2,e3]))
           clear e1
           go_wp2_with fail
           go_roundw
           case rel => exact ⟨k + 1,by go_num,by omega,HZ2,(by first | trivial | rfl)⟩
           case measure => simp [intOf]; omega
   · obtain rfl : k = ws.length := by omega
     have HZ := Lib.hid (any_false_of HZ1.out)
     go_wp2_with fail
     go_ret
     exact ⟨ret_bool (by rw [HZ.out]; rfl),(by first | trivial | rfl)⟩
end Go.Proofs
namespace Go.Proofs
open Go.RowKit Go.Shelf Go.Proofs.Ct Go.Maps
def PresPost (g : Int) (rels : List W) (w : World) (e : Ending) (w' : World) : Prop := (∃ y,e = .returned (.tuple #[.int .i64 (presE g rels), .int .i64 y])) /\ Below w.heap.size w w'
theorem presE_range {g : Int} {rels : List W} (h : g < 1 \/ 16 < g) : presE g rels = 2 := by unfold presE; rw [if_pos h]
theorem presE_many {g : Int} {rels : List W} (h : ¬ (g < 1 \/ 16 < g)) (h2 : 100 < rels.length) : presE g rels = 4 := by unfold presE; rw [if_neg h,if_pos h2]
theorem sumTo_succ (rels : List W) (k : Nat) : sumTo rels (k + 1) = sumTo rels k + (rels.getD k []).length := rfl
theorem presBad_long {g : Nat} {rels : List W} {k : Nat} (h : 4000 < sumTo rels (k + 1)) : presBad g rels k = 4 := by unfold presBad; rw [if_pos h]
theorem presBad_let {g : Nat} {rels : List W} {k : Nat} (h : ¬ 4000 < sumTo rels (k + 1)) (h2 : (rels.getD k []).any (letBad g) = true) : presBad g rels k = 2 := by unfold presBad; rw [if_neg h,if_pos h2]
theorem presBad_ok {g : Nat} {rels : List W} {k : Nat} (h : ¬ 4000 < sumTo rels (k + 1)) (h2 : (rels.getD k []).any (letBad g) = false) : presBad g rels k = 0 := by unfold presBad; rw [if_neg h,h2]; rfl
set_option maxRecDepth 100000 in
set_option maxHeartbeats 1000000 in
theorem pcheck78_any (w : World) (vr : Value) (g : Int) (rels : List W) (hR : Tab w vr rels) : Calls Tryz.prog 26 #[.agg #[.int .i64 g,vr]] w (PresPost g rels w) := by
 obtain ⟨Ar,cr,rfl,r1,r2,r3⟩ := hR.open_
 have hbel : Below w.heap.size w (w.alloc (.cells #[.int .i64 g, .slice Ar rels.length cr] 24)) := (Below.refl _ _).alloc (Nat.le_refl _) _
 have HBE := Lib.hid hbel
 have HR := Lib.hid r3
 have hnew := heap_alloc_new w (.cells #[.int .i64 g, .slice Ar rels.length cr] 24)
 have hn0 : (0 : Int) <= (rels.length : Int) := Int.natCast_nonneg _
 by_cases h1 : g < 1 \/ 16 < g
 · have HZ := Lib.hid (presE_range (rels := rels) h1)
   clear hR r3 hbel hnew
   by_cases h2 : g < 1
   · clear h1
     go_enter Tryz.func26,Tryz.ntmps26
     go_wp2_with fail
     go_ret2
     exact ⟨⟨_,ret_pair HZ.out.symm rfl⟩,HBE.out⟩
   · have h3 : 16 < g := by omega
     clear h1
     go_enter Tryz.func26,Tryz.ntmps26
     go_wp2_with fail
     go_ret2
     exact ⟨⟨_,ret_pair HZ.out.symm rfl⟩,HBE.out⟩
 · obtain ⟨gn,rfl⟩ : ∃ gn : Nat,g = gn := ⟨g.toNat,by omega⟩
   have hg1 : ¬ (gn : Int) < 1 := by omega
   have hg2 : ¬ (16 : Int) < (gn : Int) := by omega
   by_cases h4 : 100 < rels.length
   · have h4' : (100 : Int) < (rels.length : Int) := by omega
     have HZ := Lib.hid (presE_many (rels := rels) h1 h4)
     clear hR r3 hbel hnew h1 h4
     go_enter Tryz.func26,Tryz.ntmps26
     go_wp2_with fail
     go_ret2
     exact ⟨⟨_,ret_pair HZ.out.symm rfl⟩,HBE.out⟩
   · have h4' : ¬ (100 : Int) < (rels.length : Int) := by omega
     have h4'' : (rels.length : Int) <= 100 := by omega
     have HS : Hid (∀ k,k < rels.length -> (∀ j,j < k -> presBad gn rels j = 0) -> presBad gn rels k ≠ 0 -> presE (gn : Int) rels = presBad gn rels k) := Lib.hid fun k => presE_some (by omega) (by omega)
     have HN := Lib.hid (@presE_none gn rels (by omega) (by omega))
     have HP : Hid (∀ q,PredW 63 #[.pointer (some ⟨w.heap.size,0,none⟩)] (fun x => -9223372036854775808 <= x /\ x <= 9223372036854775807) (letBad gn) ((w.alloc (.cells #[.int .i64 (gn : Int), .slice Ar rels.length cr] 24)).drewN q)) := Lib.hid fun q => pred121 gn w.heap.size (.slice Ar rels.length cr) _ (by omega) (cell_of2 hnew).1 (cell_of2 hnew).2
     clear hR r3 hbel hnew h1 h4
     go_enter Tryz.func26,Tryz.ntmps26
     go_wp2_with fail
     generalize hw0 : w.alloc (.cells #[.int .i64 (gn : Int), .slice Ar rels.length cr] 24) = w0 at *
     clear hw0
     go_loopw [4,24] (fun l i wr => ∃ k s : Nat,i = .int .i64 k /\ k <= rels.length /\ l = .int .i64 (4000 - (s : Int)) /\ s <= 4000 /\ Hid (s = sumTo rels k /\ ∀ j,j < k -> presBad gn rels j = 0) /\ ∃ q,wr = w0.drewN q) (fun _ i _ => rels.length - (intOf i).toNat)
     case atStart => exact ⟨0,0,rfl,by omega,rfl,by omega,Lib.hid ⟨rfl,fun j hj => absurd hj (by omega)⟩,0,rfl⟩
     case round =>
       obtain ⟨k,s,rfl,hk,rfl,hs,HK,q,rfl⟩ := hrel
       have hk0 : (0 : Int) <= (k : Int) := Int.natCast_nonneg _
       by_cases hlt : k < rels.length
       · have hlt' : (k : Int) < (rels.length : Int) := by omega
         obtain ⟨b,o,rfl,hcc⟩ := HR.out (by omega)
         obtain ⟨u,hu,hI⟩ := hcc k hlt
         have hu' : (w0.drewN q).cell? ⟨b,o + k,none⟩ = some u := (HBE.out.cell (p := ⟨b,o + k,none⟩) (World.block_lt_of_cell? w _ hu)).trans hu
         have HI := Lib.hid (hI.below HBE.out)
         obtain ⟨Au,cu,rfl,u1,u2, -⟩ := hI.open_
         have HSU := Lib.hid (sumTo_succ rels k)
         have HBL := Lib.hid (@presBad_long gn rels k)
         have HBT := Lib.hid (@presBad_let gn rels k)
         have HBO := Lib.hid (@presBad_ok gn rels k)
         have HSK : Hid (presBad gn rels k ≠ 0 -> presE gn rels = presBad gn rels k) := Lib.hid (HS.out k hlt HK.out.2)
         have HNX : Hid (presBad gn rels k = 0 -> ∀ j,j < k + 1 -> presBad gn rels j = 0) := Lib.hid fun h => all_succ HK.out.2 h
         have HSM := Lib.hid HK.out.1
         have HPR := Lib.hid (has74_any 63 _ _ _ (w0.drewN q) eg121 (HP.out q) _ (rels.getD k []) (HI.out.drewN q) (fun x hx => HI.out.2 x hx))
         have hln0 : (0 : Int) <= ((rels.getD k []).length : Int) := Int.natCast_nonneg _
         clear hcc hI hu HI HS HN HP HR
         generalize hpe : presE (gn : Int) rels = pe at *
         have HPE := Lib.hid hpe
         clear hpe
         generalize presBad gn rels k = pb at *
         generalize hsm : sumTo rels (k + 1) = sm at *
         have HSME := Lib.hid hsm
         clear hsm
         generalize (rels.getD k []).any (letBad gn) = lb at *
         generalize (rels.getD k []).length = L at *
         have hs0 : (0 : Int) <= (s : Int) := Int.natCast_nonneg _
         have hs1 : (s : Int) <= 4000 := by omega
         have hL1 : (L : Int) <= 9223372036854775807 := by omega
         by_cases hov : 4000 < s + L
         · have hov' : (4000 : Int) - (s : Int) - (L : Int) < 0 := by omega
           have HZ : Hid (pe = 4) := Lib.hid (by have h1 := HBL.out (by rw [HSU.out, <- HSM.out]; exact hov); rw [HSK.out (by omega),h1])
           clear hov
           go_wp2_with fail
           go_ret2
           exact ⟨⟨_,ret_pair (by rw [HPE.out,HZ.out]) rfl⟩,below_drewN HBE.out _⟩
         · have hov' : ¬ (4000 : Int) - (s : Int) - (L : Int) < 0 := by omega
           have HSV := Lib.hid hov
           have hsl : s + L <= 4000 := by omega
           clear hov
           cases lb with
           | true =>
             have HZ : Hid (pe = 2) := Lib.hid (by have h1 := HBT.out (by rw [HSU.out, <- HSM.out]; exact HSV.out) rfl; rw [HSK.out (by omega),h1])
             go_wp2_with (go_at_call 62; (refine HPR.out.mono ?_); rintro e w' ⟨rfl,q',rfl⟩)
             go_ret2
             exact ⟨⟨_,ret_pair (by rw [HPE.out,HZ.out]) rfl⟩,below_drewN HBE.out _⟩
           | false =>
             have HZ : Hid (∀ j,j < k + 1 -> presBad gn rels j = 0) := Lib.hid (HNX.out (HBO.out (by rw [HSU.out, <- HSM.out]; exact HSV.out) rfl))
             go_wp2_with (go_at_call 62; (refine HPR.out.mono ?_); rintro e w' ⟨rfl,q',rfl⟩)
             go_roundw
             case rel => exact ⟨k + 1,s + L,by go_num,by omega,congrArg (Value.int .i64) (by omega),hsl,Lib.hid ⟨by rw [HSME.out,HSU.out,HSM.out],HZ.out⟩,(by first | exact ⟨_,rfl⟩ | exact ex_drewN)⟩
             case measure => simp [intOf]; omega
       · obtain rfl : k = rels.length := by omega
         have HZ := Lib.hid (HN.out HK.out.2)
         clear HS HN HP HR
         go_wp2_with fail
         go_ret2
         exact ⟨⟨_,ret_pair HZ.out.symm rfl⟩,below_drewN HBE.out _⟩
end Go.Proofs
namespace Go.Proofs
open Go.RowKit Go.Shelf Go.Proofs.Ct Go.Maps
set_option maxRecDepth 100000 in
set_option maxHeartbeats 1000000 in
theorem pcheck79_any (w : World) (vr : Value) (g : Int) (rels : List W) (hR : Tab w vr rels) (hsm : ∀ j,(rels.getD j []).length <= 8000000) : Calls Tryz.prog 33 #[.agg #[.int .i64 g,vr]] w (PresPost g rels w) := by
 obtain ⟨Ar,cr,rfl,r1,r2,r3⟩ := hR.open_
 have hbel : Below w.heap.size w (w.alloc (.cells #[.int .i64 g, .slice Ar rels.length cr] 24)) := (Below.refl _ _).alloc (Nat.le_refl _) _
 have HBE := Lib.hid hbel
 have HSM0 := Lib.hid hsm
 clear hsm
 have HR := Lib.hid r3
 have hnew := heap_alloc_new w (.cells #[.int .i64 g, .slice Ar rels.length cr] 24)
 have hn0 : (0 : Int) <= (rels.length : Int) := Int.natCast_nonneg _
 by_cases h1 : g < 1 \/ 16 < g
 · have HZ := Lib.hid (presE_range (rels := rels) h1)
   clear hR r3 hbel hnew
   by_cases h2 : g < 1
   · clear h1
     go_enter Tryz.func33,Tryz.ntmps33
     go_wp2_with fail
     go_ret2
     exact ⟨⟨_,ret_pair HZ.out.symm rfl⟩,HBE.out⟩
   · have h3 : 16 < g := by omega
     clear h1
     go_enter Tryz.func33,Tryz.ntmps33
     go_wp2_with fail
     go_ret2
     exact ⟨⟨_,ret_pair HZ.out.symm rfl⟩,HBE.out⟩
 · obtain ⟨gn,rfl⟩ : ∃ gn : Nat,g = gn := ⟨g.toNat,by omega⟩
   have hg1 : ¬ (gn : Int) < 1 := by omega
   have hg2 : ¬ (16 : Int) < (gn : Int) := by omega
   by_cases h4 : 100 < rels.length
   · have h4' : (100 : Int) < (rels.length : Int) := by omega
     have HZ := Lib.hid (presE_many (rels := rels) h1 h4)
     clear hR r3 hbel hnew h1 h4
     go_enter Tryz.func33,Tryz.ntmps33
     go_wp2_with fail
     go_ret2
     exact ⟨⟨_,ret_pair HZ.out.symm rfl⟩,HBE.out⟩
   · have h4' : ¬ (100 : Int) < (rels.length : Int) := by omega
     have h4'' : (rels.length : Int) <= 100 := by omega
     have HS : Hid (∀ k,k < rels.length -> (∀ j,j < k -> presBad gn rels j = 0) -> presBad gn rels k ≠ 0 -> presE (gn : Int) rels = presBad gn rels k) := Lib.hid fun k => presE_some (by omega) (by omega)
     have HN := Lib.hid (@presE_none gn rels (by omega) (by omega))
     have hgn : gn <= 16 := by omega
     have hx0 := (cell_of2 hnew).1
     have hx1 := (cell_of2 hnew).2
     clear hR r3 hbel hnew h1 h4
     go_enter Tryz.func33,Tryz.ntmps33
     go_wp2_with fail
     generalize hw0 : w.alloc (.cells #[.int .i64 (gn : Int), .slice Ar rels.length cr] 24) = w0 at *
     clear hw0
     go_loopw [4,5] (fun l i wr => ∃ k s : Nat,i = .int .i64 k /\ k <= rels.length /\ l = .int .i64 (s : Int) /\ s <= 4000 /\ Hid (s = sumTo rels k /\ ∀ j,j < k -> presBad gn rels j = 0) /\ ∃ q,wr = w0.drewN q) (fun _ i _ => rels.length - (intOf i).toNat)
     case atStart => exact ⟨0,0,rfl,by omega,rfl,by omega,Lib.hid ⟨rfl,fun j hj => absurd hj (by omega)⟩,0,rfl⟩
     case round =>
       obtain ⟨k,s,rfl,hk,rfl,hs,HK,q,rfl⟩ := hrel
       have hk0 : (0 : Int) <= (k : Int) := Int.natCast_nonneg _
       by_cases hlt : k < rels.length
       · have hlt' : (k : Int) < (rels.length : Int) := by omega
         obtain ⟨b,o,rfl,hcc⟩ := HR.out (by omega)
         obtain ⟨u,hu,hI⟩ := hcc k hlt
         have hu' : w0.cell? ⟨b,o + k,none⟩ = some u := (HBE.out.cell (p := ⟨b,o + k,none⟩) (World.block_lt_of_cell? w _ hu)).trans hu
         have HI := Lib.hid (hI.below HBE.out)
         obtain ⟨Au,cu,rfl,u1,u2, -⟩ := hI.open_
         have HSU := Lib.hid (sumTo_succ rels k)
         have HBL := Lib.hid (@presBad_long gn rels k)
         have HBT := Lib.hid (@presBad_let gn rels k)
         have HBO := Lib.hid (@presBad_ok gn rels k)
         have HSK : Hid (presBad gn rels k ≠ 0 -> presE gn rels = presBad gn rels k) := Lib.hid (HS.out k hlt HK.out.2)
         have HNX : Hid (presBad gn rels k = 0 -> ∀ j,j < k + 1 -> presBad gn rels j = 0) := Lib.hid fun h => all_succ HK.out.2 h
         have HSM := Lib.hid HK.out.1
         have HPR : Hid (∀ n,Calls Tryz.prog 72 #[.int .i64 (gn : Int), .slice Au (rels.getD k []).length cu] (w0.drewN n) fun e w' => e = .returned (.bool (!((rels.getD k []).any (letBad gn)))) /\ w0.drewN n = w') := Lib.hid fun n => (letters122_any (w0.drewN n) gn _ (rels.getD k []) hgn (HI.out.drewN n)).mono fun e w' ⟨h,h'⟩ => ⟨h,h'.symm⟩
         have hln0 : (0 : Int) <= ((rels.getD k []).length : Int) := Int.natCast_nonneg _
         have hLs := HSM0.out k
         clear hcc hI hu HI HS HN HR
         generalize hpe : presE (gn : Int) rels = pe at *
         have HPE := Lib.hid hpe
         clear hpe
         generalize presBad gn rels k = pb at *
         generalize hsm : sumTo rels (k + 1) = sm at *
         have HSME := Lib.hid hsm
         clear hsm
         generalize (rels.getD k []).any (letBad gn) = lb at *
         generalize (rels.getD k []).length = L at *
         have hs0 : (0 : Int) <= (s : Int) := Int.natCast_nonneg _
         have hs1 : (s : Int) <= 4000 := by omega
         have hL2 : (L : Int) <= 8000000 := by omega
         by_cases hov : 4000 < s + L
         · have hov' : (4000 : Int) < (s : Int) + (L : Int) := by omega
           have HZ : Hid (pe = 4) := Lib.hid (by have h1 := HBL.out (by rw [HSU.out, <- HSM.out]; exact hov); rw [HSK.out (by omega),h1])
           clear hov
           go_wp2_with fail
           go_ret2
           exact ⟨⟨_,ret_pair (by rw [HPE.out,HZ.out]) rfl⟩,below_drewN HBE.out _⟩
         · have hov' : ¬ (4000 : Int) < (s : Int) + (L : Int) := by omega
           have HSV := Lib.hid hov
           have hsl : s + L <= 4000 := by omega
           clear hov
           cases lb with
           | true =>
             have HZ : Hid (pe = 2) := Lib.hid (by have h1 := HBT.out (by rw [HSU.out, <- HSM.out]; exact HSV.out) rfl; rw [HSK.out (by omega),h1])
             go_wp2_with fail
             go_quiet ((go_at_call 72; exact quiet_add_left (HPR.out _)))
             go_wp2_with fail
             go_ret2
             exact ⟨⟨_,ret_pair (by rw [HPE.out,HZ.out]) rfl⟩,below_drewN (below_drewN HBE.out _) _⟩
           | false =>
             have HZ : Hid (∀ j,j < k + 1 -> presBad gn rels j = 0) := Lib.hid (HNX.out (HBO.out (by rw [HSU.out, <- HSM.out]; exact HSV.out) rfl))
             go_wp2_with fail
             go_quiet ((go_at_call 72; exact quiet_add_left (HPR.out _)))
             go_wp2_with fail
             go_roundw
             case rel => exact ⟨k + 1,s + L,by go_num,by omega,by go_num,hsl,Lib.hid ⟨by rw [HSME.out,HSU.out,HSM.out],HZ.out⟩,(by first | exact ⟨_,rfl⟩ | exact ex_drewN)⟩
             case measure => simp [intOf]; omega
       · obtain rfl : k = rels.length := by omega
         have HZ := Lib.hid (HN.out HK.out.2)
         clear HS HN HR
         go_wp2_with fail
         go_ret2
         exact ⟨⟨_,ret_pair HZ.out.symm rfl⟩,below_drewN HBE.out _⟩
end Go.Proofs
namespace Go.Proofs
open Go.RowKit Go.Shelf Go.Proofs.Ct Go.Maps
theorem col_pos {x : Int} (h : 0 < x) : ((col x : Nat) : Int) = 2 * (x - 1) := by unfold col; rw [if_pos h]; omega
theorem col_neg {x : Int} (h : ¬ 0 < x) (h0 : x ≠ 0) : ((col x : Nat) : Int) = 2 * (-x - 1) + 1 := by unfold col; rw [if_neg h]; omega
end Go.Proofs
namespace Go.Proofs
open Go.RowKit Go.Shelf Go.Proofs.Ct Go.Maps
theorem presE_good {g : Int} {rels : List W} (h : presE g rels = 0) : ∃ gn : Nat,g = gn /\ 1 <= gn /\ gn <= 16 /\ rels.length <= 100 /\ ∀ j,j < rels.length -> LetsOk gn (rels.getD j []) /\ (rels.getD j []).length <= 4000 := by
 unfold presE at h
 by_cases h1 : g < 1 \/ 16 < g
 · rw [if_pos h1] at h; omega
 · rw [if_neg h1] at h
   by_cases h2 : 100 < rels.length
   · rw [if_pos h2] at h; omega
   · rw [if_neg h2] at h
     have hz : ∀ j,j < rels.length -> presBad g.toNat rels j = 0 := by
       cases hf : first (fun k => decide (presBad g.toNat rels k ≠ 0)) rels.length with
       | none => intro j hj; simpa using first_none' hf j hj
       | some k =>
         rw [hf] at h
         have h3 := (first_some' hf).2.1
         simp at h3
         exact absurd h h3
     refine ⟨g.toNat,by omega,by omega,by omega,by omega,fun j hj => ?_⟩
     have hb := hz j hj
     unfold presBad at hb
     by_cases h3 : 4000 < sumTo rels (j + 1)
     · rw [if_pos h3] at hb; omega
     · rw [if_neg h3] at hb
       refine ⟨letsOk_of ?_, ?_⟩
       · cases hx : (rels.getD j []).any (letBad g.toNat) with
         | false => rfl
         | true => rw [hx] at hb; simp at hb
       · rw [sumTo_succ] at h3; omega
theorem load40 {w : World} {b : Nat} {v0 v1 : Value} (hc : w.heap[b]? = some (.cells #[v0,v1] 24 (0,0))) : (Instr.loadAt 24 (.pointer (some ⟨b,0,none⟩))).run Tryz.prog w = .ok (.agg #[v0,v1]) w := by
 have hr : w.rangeAt b 0 [v0,v1] := fun j v hj => by rw [cell_of_row _ _ _ _ _ _ hc,Nat.zero_add]; simpa using hj
 exact run_loadAt_mid (P := Tryz.prog) w b 0 24 [v0,v1] _ hr Tryz.underlying24 rfl (by kernel_rfl)
end Go.Proofs
namespace Go.Proofs
open Go.RowKit Go.Shelf Go.Proofs.Ct Go.Maps
theorem LAt.cells {α : Type} {R : World -> Value -> α -> Prop} {d : α} {w : World} {A : Option Addr} {n c : Nat} {xs : List α} (h : LAt R d w (.slice A n c) xs) : 0 < xs.length -> ∃ b off,A = some ⟨b,off,none⟩ /\ ∀ k,k < xs.length -> ∃ u,w.cell? ⟨b,off + k,none⟩ = some u /\ R w u (xs.getD k d) := by
 obtain ⟨A',c',e, -, -,h3⟩ := h.open_
 cases e
 exact h3
theorem LAt.len_le {α : Type} {R : World -> Value -> α -> Prop} {d : α} {w : World} {v : Value} {xs : List α} (h : LAt R d w v xs) : (xs.length : Int) <= 9223372036854775807 := by
 obtain ⟨A',c',e,h1,h2, -⟩ := h.open_
 omega
end Go.Proofs
namespace Go.Proofs
open Go.RowKit Go.Shelf Go.Proofs.Ct Go.Maps
section
variable {o : Oper} {a : Act} {w w' : World} {n : Nat} {v : Value}
end
def XE (w : World) (b : Nat) (x : List Int) : Prop := w.heap[b]? = some (.cells (ints x).toArray 3 (0,0))
theorem XE.set {w : World} {b : Nat} {x : List Int} (h : XE w b x) (k : Nat) (v : Int) : XE (w.setCell ⟨b,k,none⟩ (.int .i64 v)) b (x.set k v) := by
 unfold XE at h ⊢
 have : (ints x).toArray.setIfInBounds k (.int .i64 v) = (ints (x.set k v)).toArray := by simp [ints,List.map_set]
 rw [<- this]
 simp [World.setCell,Array.getElem?_modify,h]
theorem XE.own {w : World} {b base : Nat} {x : List Int} (h : XE w b x) (hb : base <= b) {n : Nat} (hn : x.length = n) (hm : n <= 9000000) : OwnI base w (.slice (some ⟨b,0,none⟩) n n) x := by
 subst hn
 refine ⟨by simp [ints], .inr ⟨b,x.length,(ints x).toArray,rfl,hb,h,Nat.le_refl _, ?_,by simp [ints], ?_⟩⟩
 · have : x.length <= 9223372036854775807 := by omega
   simpa [maxLen] using this
 · simp only [Nat.mul_one]
   exact List.take_of_length_le (by simp [ints])
theorem XE.frozen {w : World} {b : Nat} {x : List Int} (h : XE w b x) (k : Nat) : w.frozen? ⟨b,k,none⟩ = false := by
 simp [World.frozen?,show w.heap[b]? = _ from h]
theorem XE.cell {w : World} {b : Nat} {x : List Int} (h : XE w b x) {k : Nat} (hk : k < x.length) : w.cell? ⟨b,k,none⟩ = some (.int .i64 (x.getD k 0)) := by
 rw [cell_of_row _ _ _ _ _ _ (show w.heap[b]? = _ from h)]
 simp [ints,hk,List.getD_eq_getElem?_getD]
end Go.Proofs
namespace Go.Proofs
open Go.RowKit Go.Shelf Go.Proofs.Ct Go.Maps
section
variable {G : Int} {vt vr : Value} {F : Nat -> Prop} {w1 W : World} {vn : Value} {n : Int} {rows : List (List Int)}
end
structure SysR (w : World) (vt vr vn : Value) (t : Tb) (R N : List (List Int)) : Prop where
 tab : Tab w vt t
 reps : Tab w vr R
 nums : Tab w vn N
theorem SysR.below {w w' : World} {vt vr vn : Value} {t : Tb} {R N : List (List Int)} (h : SysR w vt vr vn t R N) (hb : Below w.heap.size w w') : SysR w' vt vr vn t R N :=
 ⟨kept_tab.below h.tab hb,kept_tab.below h.reps hb,kept_tab.below h.nums hb⟩
end Go.Proofs
namespace Go.Proofs
open Go.RowKit Go.Shelf Go.Proofs.Ct Go.Maps
def ListSt (w0 wr : World) (so : Value) (X : List Int) : Prop := OwnI w0.heap.size wr so X /\ Below w0.heap.size w0 wr
theorem ListSt.push {w0 wr : World} {A : Option Addr} {n c : Nat} {X : List Int} (h : ListSt w0 wr (.slice A n c) X) (hn : n = X.length) (z : Int) (hX : X.length <= 9000000) :
   ∃ A' c' w',(Builtin.append_ #[36,36] 36 #[.slice A n c, .slice (some ⟨wr.heap.size,0,none⟩) 1 1]).run Tryz.prog (wr.alloc (.cells #[.int .i64 z] 3)) = .ok (.slice A' (n + 1) c') w' /\ ListSt w0 w' (.slice A' (n + 1) c') (X ++ [z]) := by
 subst hn
 obtain ⟨A',c',w',hr,ho,hg, -⟩ := push_int 36 36 Tryz.underlying36 wr w0.heap.size _ X h.1 z (by omega) h.2.size
 exact ⟨A',c',w',hr,ho,h.2.grown hg h.2.size (fun k hk => (owns_block h.1 k hk).1)⟩
end Go.Proofs
namespace Go.Proofs
open Go.RowKit Go.Shelf Go.Proofs.Ct Go.Maps
def zero40 : Array Value := #[.int .i64 0, .slice none 0 0]
theorem build40z (w : World) : (Instr.build 24 #[]).run Tryz.prog w = .ok (.agg zero40) w := by kernel_rfl
theorem alloc40 (w : World) : (Instr.alloc 24 true (.tuple #[])).run Tryz.prog w = .ok (.pointer (some ⟨w.heap.size,0,none⟩)) (w.alloc (.cells zero40 24)) := by kernel_rfl
theorem info40s : (Tryz.prog.info? 24).map (·.size) = some 2 := by kernel_rfl
theorem zero40_one : zero40.all (·.oneCell') = true := by simp [zero40,Value.oneCell']
theorem one40 (A : Option Addr) (n a : Nat) (x : Int) : (#[Value.int .i64 x, .slice A n a] : Array Value).all (·.oneCell') = true := by simp [Value.oneCell']
section
variable {o : Oper} {a : Act} {w w' : World} {n : Nat} {v : Value}
theorem r_store40 (x y : Operand) (ho : o.op = .store 24 x y) (g : Nat) (old c' : Array Value) (hx : a.eval x = .pointer (some ⟨g,0,none⟩)) (hy : a.eval y = .agg c') (hg : w.heap[g]? = some (.cells old 24 (0,0)))
   (hi : c'.size = 2) (hoo : old.size = 2) (h1 : c'.all (·.oneCell') = true) : (execOp a.eval o).run Tryz.prog w = .ok .skip (w.setRow g c') := by
 unfold execOp
 simp only [ho,hx,hy,Instr.storeAt,Instr.sureAddr,Sem.run_bind,Sem.run_pure,Result.andThen_ok,run_storeVar_row w g 24 24 old c' hg (by rw [hi]; exact info40s) (by rw [hi,hoo]) h1]
theorem r_build40 (ho : o.op = .build 24 #[]) : (execOp a.eval o).run Tryz.prog w = .ok (.value (.agg zero40)) w := by
 have hb := build40z w
 unfold execOp
 simp only [ho,List.map_toArray,List.map_nil,Sem.run_bind,hb,Result.andThen_ok]
 rfl
theorem r_alloc40 (ho : o.op = .alloc 24) : (execOp a.eval o).run Tryz.prog w = .ok (.value (.pointer (some ⟨w.heap.size,0,none⟩))) (w.alloc (.cells zero40 24)) := by
 have hb := alloc40 w
 unfold execOp
 simp only [ho,Sem.run_bind,hb,Result.andThen_ok]
 rfl
end
theorem results_40_tmp {fn : Func} {p q : Tmp} (h : fn.results = #[.cell p 24, .tmp q]) (tmps : Array Value) (w : World) (g : Nat) (cs : Array Value) (u : Value)
   (hp : tmps.getD p undef = .pointer (some ⟨g,0,none⟩)) (hq : tmps.getD q undef = u) (hg : w.heap[g]? = some (.cells cs 24 (0,0))) (hs : cs.size = 2) :
   (results fn tmps).run Tryz.prog w = .ok (.tuple #[.agg cs,u]) w := by
 have hp' : tmps[p]?.getD undef = .pointer (some ⟨g,0,none⟩) := by simpa using hp
 have hq' : tmps[q]?.getD undef = u := by simpa using hq
 simp [results,h,hp',hq',asAddr,run_loadVar_row w g 24 24 cs (0,0) _ hg Tryz.underlying24 rfl (by rw [hs]; exact info40s)]
structure PrSt (F : Nat -> Prop) (w0 : World) (m : Int) (wr : World) (A : Option Addr) (c : Nat) (acc : List W) : Prop where
 out : OutSt 36 F w0 wr (.slice A acc.length c) acc
 box : wr.heap[w0.heap.size]? = some (.cells #[.int .i64 m, .slice A acc.length c] 24 (0,0))
theorem PrSt.below' {F : Nat -> Prop} {w0 wr w' : World} {m : Int} {A : Option Addr} {c : Nat} {acc : List W} (h : PrSt F w0 m wr A c acc) (hb : Below wr.heap.size wr w') : PrSt F w0 m w' A c acc :=
 ⟨h.out.below' hb,(hb.block _ (Array.getElem?_eq_some_iff.1 h.box).1).trans h.box⟩
theorem PrSt.first (w0 : World) (m : Int) : PrSt (fun _ => False) w0 m ((w0.alloc (.cells zero40 24)).setRow w0.heap.size #[.int .i64 m, .slice none 0 0]) none 0 [] :=
 ⟨OutSt.nil 36 (below_boxed (Below.refl _ _) _ _),setRow_heap _ _ _ _ _ _ (heap_alloc_new w0 _)⟩
theorem PrSt.push {F : Nat -> Prop} {w0 wr w1 : World} {m : Int} {A : Option Addr} {c : Nat} {acc : List W} (h : PrSt F w0 m wr A c acc) {Ax : Option Addr} {cx : Nat} {x : List Int} (hb : Below wr.heap.size wr w1) (hx : OwnI wr.heap.size w1 (.slice Ax x.length cx) x) (hf : Fits x) (hl : acc.length <= 9000000) :
   ∃ A' c' w',(Builtin.append_ #[22,22] 22 #[.slice A acc.length c, .slice (some ⟨w1.heap.size,0,none⟩) 1 1]).run Tryz.prog (w1.alloc (.cells #[.slice Ax x.length cx] 36)) = .ok (.slice A' (acc.length + 1) c') w' /\
     (w'.cell? ⟨w0.heap.size,1,none⟩ = some (.slice A acc.length c) /\ w'.frozen? ⟨w0.heap.size,1,none⟩ = false) /\
     PrSt (fun k => F k \/ (Value.slice Ax x.length cx).ownBlock = some k) w0 m (w'.setCell ⟨w0.heap.size,1,none⟩ (.slice A' (acc.length + 1) c')) A' c' (acc ++ [x]) := by
 have h1 := h.below' hb
 obtain ⟨A',c',w',hr,hS,hg⟩ := (h.out.with_row hb hx).done' (t := 22) (e := 36) (by decide) Tryz.underlying22 info25p hf hl
 have hbx : w'.heap[w0.heap.size]? = some (.cells #[.int .i64 m, .slice A acc.length c] 24 (0,0)) := grown_cells hg h1.box fun e => by
   obtain ⟨-,C,hC⟩ := h1.out.out.block _ e
   rw [h1.box] at hC
   cases hC
 refine ⟨A',c',w',hr,⟨(cell_of2 hbx).2,by simp [World.frozen?,hbx]⟩, ?_, ?_⟩
 · have := hS.grown (grown_setCell w' w0.heap.size 1 (.slice A' (acc.length + 1) c')) fun r hr => by
     cases hr
     refine ⟨Nat.le_refl _,fun hF => ?_,fun e => ?_⟩
     · obtain ⟨-, -,C,hC⟩ := hS.fs _ hF
       rw [hbx] at hC
       cases hC
     · obtain ⟨-,C,hC⟩ := hS.out.block _ e
       rw [hbx] at hC
       cases hC
   rwa [show (acc ++ [x]).length = acc.length + 1 by simp]
 · rw [show (acc ++ [x]).length = acc.length + 1 by simp]
   simp [World.setCell,Array.getElem?_modify,hbx]
end Go.Proofs
namespace Go.Proofs
open Go.RowKit Go.Shelf Go.Proofs.Ct Go.Maps
theorem below_setRow {B : Nat} {w w1 : World} (h : Below B w w1) {g : Nat} (hg : B <= g) (cs : Array Value) : Below B w (w1.setRow g cs) :=
 h.trans ⟨rfl,rfl,rfl,by rw [World.setRow]; simp,fun k hk => setRow_other _ _ k _ (by omega)⟩
end Go.Proofs
namespace Go.Proofs
open Go.RowKit Go.Shelf Go.Proofs.Ct Go.Maps
theorem ints_lit (w : World) (xs : List Int) (hf : Fits xs) (n : Nat) (hn : xs.length = n) (hm : n <= 1000) : IntsAt (w.alloc (.cells (ints xs).toArray 3)) (.slice (some ⟨w.heap.size,0,none⟩) n n) xs := by
 subst hn
 refine ⟨⟨_, xs.length, xs.length, rfl, by simp [ints], Nat.le_refl _, by have : xs.length <= 9223372036854775807 := by omega
                                                                          simpa [maxLen] using this,fun _ => ⟨w.heap.size,0,rfl,fun j u hu => ?_⟩⟩,hf⟩
 rw [cell_of_row _ _ _ _ _ _ (heap_alloc_new w _),Nat.zero_add]
 simpa using hu
theorem tab_three (w : World) (u v z : Value) (x y q : List Int) (hu : IntsAt w u x) (hv : IntsAt w v y) (hz : IntsAt w z q) {e : TypeId} : Tab (w.alloc (.cells #[u,v,z] e)) (.slice (some ⟨w.heap.size,0,none⟩) 3 3) [x,y,q] := by
 have hb : Below w.heap.size w (w.alloc (.cells #[u,v,z] e)) := (Below.refl _ _).alloc (Nat.le_refl _) _
 refine ⟨[u,v,z],⟨_,3,3,rfl,rfl,Nat.le_refl _,by simp [maxLen],fun _ => ⟨w.heap.size,0,rfl,fun j a ha => ?_⟩⟩,rfl,fun i hi => ?_⟩
 · rw [cell_of_row _ _ _ _ _ _ (heap_alloc_new w _),Nat.zero_add]
   simpa using ha
 · have : i = 0 \/ i = 1 \/ i = 2 := by simp at hi; omega
   rcases this with rfl | rfl | rfl
   · exact ⟨u,rfl,hu.below hb⟩
   · exact ⟨v,rfl,hv.below hb⟩
   · exact ⟨z,rfl,hz.below hb⟩
end Go.Proofs
namespace Go.Proofs
open Go.RowKit Go.Shelf Go.Proofs.Ct Go.Maps
theorem quiet_add_ex {P : Program} {f : FuncId} {args : Array Value} {w : World} {a n : Nat} {v : Value}
   (h : Calls P f args (w.drewN (a + n)) fun e w' => e = .returned v /\ ∃ q,w' = (w.drewN (a + n)).drewN q) :
   Calls P f args (w.drewN (a + n)) fun e w'' => e = .returned v /\ ∃ m,w'' = w.drewN (a + m) :=
 h.mono fun _ _ ⟨he,q,hm⟩ => ⟨he,n + q,by rw [hm,World.drewN_drewN,Nat.add_assoc]⟩
theorem wpList_valG {ops : Array Oper} {rest : List Oper} {o : Oper} {a : Act} {w w' : World} {Q : Exit -> Act -> World -> Prop} {v : Value} (hg : Region.wanted o (yielded ops a.tmps) = true) (hrun : (execOp a.eval o).run Tryz.prog w = .ok (.value v) w') (h : wpList Tryz.prog ops Q rest (a.put o.dst v) w') : wpList Tryz.prog ops Q (o :: rest) a w :=
 BigFrame.wpList_want hg fun _ hK => by
   unfold Oper.wp
   rw [hrun]
   exact hK _ _ h
theorem LAt.cells' {α : Type} {R : World -> Value -> α -> Prop} {d : α} {w : World} {v : Value} {xs : List α} (h : LAt R d w v xs) (A : Option Addr) (n c : Nat) (e : v = .slice A n c) : 0 < xs.length -> ∃ b off,A = some ⟨b,off,none⟩ /\ ∀ k,k < xs.length -> ∃ u,w.cell? ⟨b,off + k,none⟩ = some u /\ R w u (xs.getD k d) := by
 subst e
 exact h.cells
set_option maxRecDepth 100000 in
set_option maxHeartbeats 1000000 in
theorem equal80_any (w : World) (u v : Value) (x y : List Int) (hu : IntsAt w u x) (hv : IntsAt w v y) : Calls Tryz.prog 40 #[u,v] w fun e w' => e = .returned (.bool (decide (x = y))) /\ ∃ q,w' = w.drewN q := by
 obtain ⟨A,c,rfl,h1,h2,h3⟩ := hu.open_
 obtain ⟨B,d,rfl,k1,k2,k3⟩ := hv.open_
 have HA := Lib.hid h3
 have HB := Lib.hid k3
 have hx0 : (0 : Int) <= (x.length : Int) := Int.natCast_nonneg _
 clear hu hv h3 k3
 by_cases hl : x.length = y.length
 · have d1 : ((x.length : Int) != (y.length : Int)) = false := by simp; omega
   have d2 : (x.length != y.length) = false := by simp; omega
   have HL := Lib.hid hl
   clear hl
   go_enter Tryz.func40,Tryz.ntmps40
   go_wp2_with fail
   go_loopw [5] (fun i wr => ∃ k : Nat,k <= x.length /\ i = .int .i64 k /\ Hid (∀ j,j < k -> x.getD j 0 = y.getD j 0) /\ ∃ q,wr = w.drewN q) (fun i _ => x.length - (intOf i).toNat)
   case atStart => exact ⟨0,Nat.zero_le _,rfl,Lib.hid fun j hj => absurd hj (by omega),0,rfl⟩
   case round =>
     obtain ⟨k,hk,rfl,HZ,q,rfl⟩ := hrel
     have hk0 : (0 : Int) <= (k : Int) := Int.natCast_nonneg _
     by_cases hlt : k < x.length
     · obtain ⟨ba,oa,rfl,hca⟩ := HA.out (by omega)
       obtain ⟨bb,ob,rfl,hcb⟩ := HB.out (by rw [<- HL.out]; omega)
       have hx1 := hca k hlt
       have hx2 := hcb k (by rw [<- HL.out]; omega)
       have hka : (k : Int) < (x.length : Int) := by omega
       have hkb : (k : Int) < (y.length : Int) := by rw [<- HL.out]; omega
       have HK : Hid (x.getD k 0 = y.getD k 0 -> ∀ j,j < k + 1 -> x.getD j 0 = y.getD j 0) := Lib.hid fun h => all_succ HZ.out h
       have HN : Hid (x.getD k 0 ≠ y.getD k 0 -> x ≠ y) := Lib.hid fun h => getD_ne h
       clear hca hcb
       generalize x.getD k 0 = s at *
       generalize y.getD k 0 = t at *
       by_cases hst : s = t
       · have d5 : (s != t) = false := by simpa using hst
         have HK2 := Lib.hid (HK.out hst)
         clear hst HK HN
         go_wp2_with fail
         go_quiet (fail)
         go_wp2_with fail
         go_roundw
         case rel => exact ⟨k + 1,by omega,by go_num,HK2,(by first | exact ⟨_,rfl⟩ | exact ex_drewN)⟩
         case measure => simp [intOf]; omega
       · have d5 : (s != t) = true := by simpa using hst
         have HD : Hid (decide (x = y) = false) := Lib.hid (decide_eq_false (HN.out hst))
         clear hst HK HN
         go_wp2_with fail
         go_quiet (fail)
         go_wp2_with fail
         go_ret
         exact ⟨ret_bool HD.out.symm,(by first | exact ⟨_,rfl⟩ | exact ex_drewN)⟩
     · obtain rfl : k = x.length := by omega
       have HD : Hid (decide (x = y) = true) := Lib.hid (decide_eq_true (getD_ext HL.out HZ.out))
       go_wp2_with fail
       go_ret
       exact ⟨ret_bool HD.out.symm,(by first | exact ⟨_,rfl⟩ | exact ex_drewN)⟩
 · have d1 : ((x.length : Int) != (y.length : Int)) = true := by simp; omega
   have d2 : (x.length != y.length) = true := by simp; omega
   have HD : Hid (decide (x = y) = false) := Lib.hid (decide_eq_false fun h => hl (by rw [h]))
   clear hl
   go_enter Tryz.func40,Tryz.ntmps40
   go_wp2_with fail
   go_ret
   exact ⟨ret_bool HD.out.symm,0,rfl⟩
set_option maxRecDepth 100000 in
set_option maxHeartbeats 2000000 in
theorem same26_any (w : World) (va vb : Value) (g1 g2 : Int) (A B : List (List Int)) (ha : Tab w va A) (hb : Tab w vb B) :
   Calls Tryz.prog 13 #[.agg #[.int .i64 g1,va], .agg #[.int .i64 g2,vb]] w fun e w' => e = .returned (.bool (decide (g1 = g2 /\ A = B))) /\ Below w.heap.size w w' := by
 obtain ⟨A0,ca,rfl,ha1,ha2,ha3⟩ := ha.open_
 obtain ⟨B0,cb,rfl,hb1,hb2,hb3⟩ := hb.open_
 have hbel : Below w.heap.size w ((w.alloc (.cells #[.int .i64 g1, .slice A0 A.length ca] 24)).alloc (.cells #[.int .i64 g2, .slice B0 B.length cb] 24)) := ((Below.refl _ _).alloc (Nat.le_refl _) _).alloc (by simp) _
 have hn1 : ((w.alloc (.cells #[.int .i64 g1, .slice A0 A.length ca] 24)).alloc (.cells #[.int .i64 g2, .slice B0 B.length cb] 24)).heap[w.heap.size]? = some (.cells #[.int .i64 g1, .slice A0 A.length ca] 24 (0,0)) := (Below.heap_alloc (w.alloc _) _ w.heap.size (by simp)).trans (heap_alloc_new w _)
 have hn2 : ((w.alloc (.cells #[.int .i64 g1, .slice A0 A.length ca] 24)).alloc (.cells #[.int .i64 g2, .slice B0 B.length cb] 24)).heap[w.heap.size + 1]? = some (.cells #[.int .i64 g2, .slice B0 B.length cb] 24 (0,0)) := by
   have := heap_alloc_new (w.alloc (.cells #[.int .i64 g1, .slice A0 A.length ca] 24)) (.cells #[.int .i64 g2, .slice B0 B.length cb] 24); rwa [World.size_alloc] at this
 obtain ⟨p0,p1⟩ := cell_of2 hn1
 obtain ⟨q0,q1⟩ := cell_of2 hn2
 have HA := Lib.hid ha3
 have HB := Lib.hid hb3
 have HBE := Lib.hid hbel
 have hA0 : (0 : Int) <= (A.length : Int) := Int.natCast_nonneg _
 clear ha hb ha3 hb3 hbel hn1 hn2
 by_cases hg : g1 = g2
 · have e1 : (g1 != g2) = false := by simpa using hg
   by_cases hl : A.length = B.length
   · have d1 : ((A.length : Int) != (B.length : Int)) = false := by simp; omega
     have d2 : (A.length != B.length) = false := by simp; omega
     have HL := Lib.hid hl
     have HG := Lib.hid hg
     clear hl hg
     go_enter Tryz.func13,Tryz.ntmps13
     go_wp2_with fail
     generalize hw0 : (w.alloc (.cells #[.int .i64 g1, .slice A0 A.length ca] 24)).alloc (.cells #[.int .i64 g2, .slice B0 B.length cb] 24) = w0 at *
     clear hw0
     go_loopw [5] (fun i wr => ∃ k : Nat,k <= A.length /\ i = .int .i64 k /\ Hid (∀ j,j < k -> A.getD j [] = B.getD j []) /\ ∃ q,wr = w0.drewN q) (fun i _ => A.length - (intOf i).toNat)
     case atStart => exact ⟨0,Nat.zero_le _,rfl,Lib.hid fun j hj => absurd hj (by omega),0,rfl⟩
     case round =>
       obtain ⟨k,hk,rfl,HZ,q,rfl⟩ := hrel
       by_cases hlt : k < A.length
       · obtain ⟨b1,o1,rfl,hc1⟩ := HA.out (by omega)
         obtain ⟨b2,o2,rfl,hc2⟩ := HB.out (by rw [<- HL.out]; omega)
         obtain ⟨u1,hu1,hr1⟩ := hc1 k hlt
         obtain ⟨u2,hu2,hr2⟩ := hc2 k (by rw [<- HL.out]; omega)
         have hz1 := (HBE.out.cell (p := ⟨b1,o1 + k,none⟩) (World.block_lt_of_cell? w _ hu1)).trans hu1
         have hz2 := (HBE.out.cell (p := ⟨b2,o2 + k,none⟩) (World.block_lt_of_cell? w _ hu2)).trans hu2
         have hi1 := hr1.below HBE.out
         have hi2 := hr2.below HBE.out
         have hk0 : (0 : Int) <= (k : Int) := Int.natCast_nonneg _
         have hkb : (k : Int) < (B.length : Int) := by rw [<- HL.out]; omega
         have hka : (k : Int) < (A.length : Int) := by omega
         have HEQ : Hid (∀ n,Calls Tryz.prog 40 #[u1,u2] (w0.drewN n) fun e w' => e = .returned (.bool (decide (A.getD k [] = B.getD k []))) /\ ∃ q,w' = (w0.drewN n).drewN q) := Lib.hid fun n => equal80_any _ _ _ _ _ (hi1.drewN n) (hi2.drewN n)
         have HN : Hid (A.getD k [] ≠ B.getD k [] -> A ≠ B) := Lib.hid (fun h => getD_ne (A := A) (B := B) (d := []) (k := k) h)
         have HK : Hid (A.getD k [] = B.getD k [] -> ∀ j,j < k + 1 -> A.getD j [] = B.getD j []) := Lib.hid (fun h => all_succ HZ.out h)
         obtain ⟨A3,c3,rfl, -, -, -⟩ := hr1.open_
         obtain ⟨A4,c4,rfl, -, -, -⟩ := hr2.open_
         clear hc1 hc2 hr1 hr2 hu1 hu2 hi1 hi2
         generalize A.getD k [] = x at *
         generalize B.getD k [] = y at *
         by_cases hxy : x = y
         · have HE : Hid (decide (x = y) = true) := Lib.hid (decide_eq_true hxy)
           have HK2 := Lib.hid (HK.out hxy)
           rw [HE.out] at HEQ
           clear hxy HN HK
           go_wp2_with fail
           go_quiet ((go_at_call 40; exact quiet_add_ex (HEQ.out _)))
           go_wp2_with fail
           go_roundw
           case rel => exact ⟨k + 1,by omega,by go_num,HK2,(by first | exact ⟨_,rfl⟩ | exact ex_drewN)⟩
           case measure => simp [intOf]; omega
         · have HE : Hid (decide (x = y) = false) := Lib.hid (decide_eq_false hxy)
           have HD : Hid (decide (g1 = g2 /\ A = B) = false) := Lib.hid (decide_eq_false fun h => HN.out hxy h.2)
           rw [HE.out] at HEQ
           clear hxy HN HK
           go_wp2_with fail
           go_quiet ((go_at_call 40; exact quiet_add_ex (HEQ.out _)))
           go_wp2_with fail
           go_ret
           exact ⟨ret_bool HD.out.symm,below_drewN (below_drewN HBE.out _) _⟩
       · obtain rfl : k = A.length := by omega
         have HD : Hid (decide (g1 = g2 /\ A = B) = true) := Lib.hid (decide_eq_true ⟨HG.out,getD_ext HL.out HZ.out⟩)
         go_wp2_with fail
         go_ret
         exact ⟨ret_bool HD.out.symm,below_drewN HBE.out _⟩
   · have d1 : ((A.length : Int) != (B.length : Int)) = true := by simp; omega
     have d2 : (A.length != B.length) = true := by simp; omega
     have HD : Hid (decide (g1 = g2 /\ A = B) = false) := Lib.hid (decide_eq_false fun h => hl (by rw [h.2]))
     clear hl hg
     go_enter Tryz.func13,Tryz.ntmps13
     go_wp2_with fail
     go_ret
     exact ⟨ret_bool HD.out.symm,HBE.out⟩
 · have e1 : (g1 != g2) = true := by simpa using hg
   have HD : Hid (decide (g1 = g2 /\ A = B) = false) := Lib.hid (decide_eq_false fun h => hg h.1)
   clear hg
   go_enter Tryz.func13,Tryz.ntmps13
   go_wp2_with fail
   go_ret
   exact ⟨ret_bool HD.out.symm,HBE.out⟩
end Go.Proofs
namespace Go.Proofs
open Go.RowKit Go.Shelf Go.Proofs.Ct Go.Maps
structure SameM (a0 : Act) (dm : Nat -> Nat) (N : Nat) (a : Act) : Prop where
 size : a.tmps.size = a0.tmps.size
 defers : a.defers = a0.defers
 out : ∀ t,(∀ i,i < N -> dm i ≠ t) -> a.tmps.getD t undef = a0.tmps.getD t undef
theorem SameM.refl (a0 : Act) (dm : Nat -> Nat) (N : Nat) : SameM a0 dm N a0 := ⟨rfl,rfl,fun _ _ => rfl⟩
theorem SameM.put {a0 a : Act} {dm : Nat -> Nat} {N i : Nat} (h : SameM a0 dm N a) (hi : i < N) (v : Value) : SameM a0 dm N (a.put (some (dm i)) v) :=
 ⟨by simpa [Act.put] using h.size,h.defers,fun t ht => by rw [<- h.out t ht,put_getD_ne _ _ _ _ (ht i hi)]⟩
structure Tailed1 (ops : Array Oper) (N : Nat) : Prop where
 size : ops.size = N + 1
 lex : ∀ (i : Nat) (o : Oper),ops[i]? = some o -> ∀ e ∈ o.after.toList,e.on < i
 succ : ∀ i,i < N -> ∃ (j : Nat) (o : Oper),i < j /\ j <= N /\ ops[j]? = some o /\ ∃ e ∈ o.after.toList,e.on = i /\ Region.binds .any e = true
section
variable {F : Fence} {n : Nat} {P : Program} {ops : Array Oper} {Q : Exit -> Act -> World -> Prop}
theorem Tailed1.before {N : Nat} (ht : Tailed1 ops N) {listed : Array Bool} (hc : Closed ops listed) {o : Oper} (ho : ops[N]? = some o) (hp : ∀ e ∈ o.after.toList,Region.binds .any e = true -> listed.getD e.on false = true) :
   ∀ k i,i < N -> N - i <= k -> listed.getD i false = true := by
 intro k
 induction k with
 | zero => intro i hi hk; omega
 | succ k ih =>
   intro i hi hk
   obtain ⟨j,oj,hij,hjN,hoj,e,he,rfl,hb⟩ := ht.succ i hi
   rcases Nat.lt_or_ge j N with h | h
   · exact hc j oj hoj (ih j h (by omega)) e he hb
   · have : j = N := by omega
     subst this
     rw [ho] at hoj
     cases hoj
     exact hp e he hb
end
section
variable {n : Nat} {ops : Array Oper} {Q : Exit -> Act -> World -> Prop} {i : Nat} {o : Oper} {K : Act -> World -> Prop} {a : Act} {w : World}
end
theorem SameM.frame {a0 a : Act} {dm : Nat -> Nat} {N : Nat} (h : SameM a0 dm N a) (n : Nat) (hn : a0.tmps.size = n) :
   a = { tmps := ((List.range n).map fun t => if (List.range N).any (fun i => dm i == t) then a.tmps.getD t undef else a0.tmps.getD t undef).toArray,defers := a0.defers } := by
 obtain ⟨t,d⟩ := a
 have hd := h.defers
 have hs := h.size
 have ho := h.out
 simp only at hd hs ho
 subst hd
 congr 1
 apply Array.ext'
 apply List.ext_getElem?
 intro i
 show t.toList[i]? = (List.map _ (List.range n))[i]?
 rw [List.getElem?_map]
 rcases Nat.lt_or_ge i n with hi | hi
 · rw [List.getElem?_range hi]
   have hti : i < t.size := by omega
   simp only [Option.map_some]
   have hg : t.toList[i]? = some (t.getD i undef) := by simp [Array.getD_eq_getD_getElem?,hti]
   rw [hg]
   refine congrArg some ?_
   by_cases hx : (List.range N).any (fun q => dm q == i) = true
   · rw [if_pos hx]
   · rw [if_neg hx]
     refine ho i (fun j hj e => hx ?_)
     rw [List.any_eq_true]
     exact ⟨j,by simpa using hj,by simpa using e⟩
 · rw [List.getElem?_eq_none (by simpa using (by omega : t.size <= i)),List.getElem?_eq_none (by simpa using hi)]
   rfl
section
variable {o : Oper} {a : Act} {w w' : World} {n : Nat} {next : Act -> World -> Prop} {Q : Exit -> Act -> World -> Prop} {v : Value}
theorem wpW_val (hrun : (execOp a.eval o).run Tryz.prog w = .ok (.value v) w') (h : next (a.put o.dst v) w') : o.wpIn Fence.wide n Tryz.prog a w next Q :=
 ⟨fun _ _ => trivial,by rw [Fence.wide_round,Oper.semAt_none,hrun]; exact h⟩
theorem wpW_call {f : FuncId} {args : Array Value} {R : Value -> World -> Prop} (hrun : (execOp a.eval o).run Tryz.prog w = .ok (.enter f args) w')
   (hc : Calls Tryz.prog f args w' fun e w'' => ∃ v,e = .returned v /\ R v w'') (h : ∀ v w'',R v w'' -> next (a.put o.dst v) w'') : o.wpIn Fence.wide n Tryz.prog a w next Q :=
 ⟨fun _ _ => trivial,by
   rw [Fence.wide_round,Oper.semAt_none,hrun]
   refine ⟨fun hh => by simp [Fence.wide] at hh,callsIn_wide.2 (hc.mono ?_)⟩
   rintro e w'' ⟨v,rfl,hR⟩
   exact h v w'' hR⟩
end
end Go.Proofs
