/- (*coset.state).coincide: what it meets; (*coset.state).coincide; slices.Repeat of one number; A state in memory while a coset is added: rows, parents and queue each by itself; Permutations of a few points, plainly, for CosetMaps: how letters act on them, orders of words, maps of tables to points; Calls as operations of a drawn region; what Enumerate answers, by blocks; Operations that make or grow a list, one at a time; what stands while a row joins; The program's Images; The memory of least: which cosets are known, their least words, the layer and the next one; slices.Grow and slices.Concat at lists of rows; tietze.once. -/
import Derived.Test.YtmmbmhjdnlmedaaGreatSiCS10
import Derived.Shelf.Bits.Mul64
import Derived.Laws.CopyOwn
import Derived.Test.YtmmbmhjdnlmedaaGreatSiCS4
import Derived.Test.YtmmbmhjdnlmedaaGreatSiCS2
import Derived.Test.YtmmbmhjdnlmedaaGreatSiCS7
namespace Go.Proofs
open Go.RowKit Go.Shelf Go.Proofs.Ct Go.Maps
theorem StP.at_ {g base b wd lim : Nat} {w : World} {s : St} (hI : Inv g s) (hS : StP base b wd lim w s) {r c : Nat} (hr : r < s.t.length) (hc : c < 2 * g) : ∃ gr cr br k,w.cell? ⟨b,2,none⟩ = some (.slice (some ⟨gr,0,none⟩) s.t.length cr) /\ w.cell? ⟨gr,r,none⟩ = some (.slice (some ⟨br,0,none⟩) (2 * g) k) /\ w.cell? ⟨br,c,none⟩ = some (.int .i64 (s.t.at r c)) := by
 obtain ⟨-,P,vr,vp,vq,bl,cs,hB,hC⟩ := hS
 obtain ⟨gr,cr,rfl,r1,r2,r3⟩ := hC.at_ hr (c := c) (by rw [hI.len r hr]; exact hc)
 rw [hI.len r hr] at r1
 exact ⟨gr,cr,bl r,cs r,hB.cells.2.2.1,r1,r2⟩
theorem StP.que {base b wd lim : Nat} {w : World} {s : St} (hS : StP base b wd lim w s) : ∃ A c,w.cell? ⟨b,4,none⟩ = some (.slice A s.q.length c) /\ w.frozen? ⟨b,4,none⟩ = false /\ (0 < s.q.length -> ∃ gq,A = some ⟨gq,0,none⟩ /\ ∀ k,k < s.q.length -> w.cell? ⟨gq,k,none⟩ = some (.int .i64 (s.q.getD k 0 : Int))) /\
   (base <= b -> StP base b wd lim (w.setCell ⟨b,4,none⟩ (.slice A 0 c)) { s with q := [] }) /\ (A = none -> s.q.length = 0 /\ c = 0) /\ (∀ a,A = some a -> a.off = 0 /\ a.spot = none) /\ s.q.length <= c := by
 obtain ⟨hb,P,vr,vp,vq,bl,cs,hB,hC⟩ := hS
 obtain ⟨A,c,rfl⟩ : ∃ A c,vq = .slice A s.q.length c := by
   rcases hC.que.2 with ⟨h,h0⟩ | ⟨gq,cap,cur,h, -⟩
   · rw [length_nats] at h0; exact ⟨none,0,by rw [h0]; exact h⟩
   · rw [length_nats] at h; exact ⟨_,cap,h⟩
 have hC0 : CoreM base w { s with q := [] } P vr vp (.slice A 0 c) bl cs := by
   refine ⟨hC.out,hC.row,hC.inj,hC.par, ?_,hC.sepP,fun i hi e => hC.sepQ i hi ?_,fun r hr e => hC.pq r hr ?_,hC.root.of_rep rfl rfl⟩
   · have h := hC.que
     unfold OwnI at h
     rw [length_nats] at h
     exact owns_take h (k := 0) (Nat.zero_le _)
   · cases A <;> exact e
   · cases A <;> exact e
 refine ⟨A,c,hB.cells.2.2.2.2.1,hB.frozen 4,fun h0 => ?_,fun _ => ⟨hb,P,vr,vp,_,bl,cs,(hB.upd4 (s' := { s with q := [] }) (.slice A 0 c) rfl rfl),hC0.other hB.box (by decide) (by decide) 4 _⟩,fun h => ?_,fun a h => ?_, ?_⟩
 · obtain ⟨gq,cq,e, -, -,hcc, -⟩ := ownI_cell hC.que (by rw [length_nats]; exact h0)
   rw [length_nats] at e hcc
   injection e with e1 e2 e3
   exact ⟨gq,e1,fun k hk => by have := hcc k hk; rwa [nats_getD] at this⟩
 · rcases hC.que.2 with ⟨h',h0⟩ | ⟨gq,cap,cur,h', -⟩
   · rw [length_nats] at h0
     injection h' with e1 e2 e3
     exact ⟨h0,e3⟩
   · injection h' with e1 e2 e3
     rw [h] at e1
     cases e1
 · rcases hC.que.2 with ⟨h',h0⟩ | ⟨gq,cap,cur,h', -⟩
   · injection h' with e1 e2 e3
     rw [h] at e1
     cases e1
   · injection h' with e1 e2 e3
     rw [h] at e1
     cases e1
     exact ⟨rfl,rfl⟩
 · rcases hC.que.2 with ⟨h',h0⟩ | ⟨gq,cap,cur,h', -, -,h1, -⟩
   · rw [length_nats] at h0; omega
   · injection h' with e1 e2 e3
     rw [length_nats] at h1
     omega
end Go.Proofs
namespace Go.Proofs.Ct
end Go.Proofs.Ct
namespace Go.Proofs
open Go.RowKit Go.Shelf Go.Proofs.Ct Go.Maps
theorem StP.drew {base b wd lim : Nat} {w : World} {s : St} (hS : StP base b wd lim w s) : StP base b wd lim w.drew s := by
 obtain ⟨hb,P,vr,vp,vq,bl,cs,hB,hC⟩ := hS
 have hd := (Below.refl w.heap.size w).drew
 exact ⟨hb,P,vr,vp,vq,bl,cs,hB.below hd,hC.below hd⟩
theorem StP.cut {g base b wd lim : Nat} {w : World} {s : St} (hI : Inv g s) (hS : StP base b wd lim w s) {e c : Nat} (he : e < s.t.length) (hc : c < 2 * g) (_hd : 0 <= s.t.at e c) :
   ∃ gr cr be ke bd kd x2,w.cell? ⟨b,2,none⟩ = some (.slice (some ⟨gr,0,none⟩) s.t.length cr) /\ w.cell? ⟨gr,e,none⟩ = some (.slice (some ⟨be,0,none⟩) (2 * g) ke) /\ w.cell? ⟨gr,(s.t.at e c).toNat,none⟩ = some (.slice (some ⟨bd,0,none⟩) (2 * g) kd) /\
     w.cell? ⟨be,c,none⟩ = some (.int .i64 (s.t.at e c)) /\ w.frozen? ⟨be,c,none⟩ = false /\
     (w.setCell ⟨be,c,none⟩ (.int .i64 (-1))).cell? ⟨b,2,none⟩ = some (.slice (some ⟨gr,0,none⟩) s.t.length cr) /\ (w.setCell ⟨be,c,none⟩ (.int .i64 (-1))).cell? ⟨gr,(s.t.at e c).toNat,none⟩ = some (.slice (some ⟨bd,0,none⟩) (2 * g) kd) /\
     (w.setCell ⟨be,c,none⟩ (.int .i64 (-1))).cell? ⟨bd,flp c,none⟩ = some (.int .i64 x2) /\ (w.setCell ⟨be,c,none⟩ (.int .i64 (-1))).frozen? ⟨bd,flp c,none⟩ = false /\
     StP base b wd lim ((w.setCell ⟨be,c,none⟩ (.int .i64 (-1))).setCell ⟨bd,flp c,none⟩ (.int .i64 (-1))) { s with t := cutT s.t e c } /\ Below base w ((w.setCell ⟨be,c,none⟩ (.int .i64 (-1))).setCell ⟨bd,flp c,none⟩ (.int .i64 (-1))) := by
 obtain ⟨hb,P,vr,vp,vq,bl,cs,hB,hC⟩ := hS
 have hdl : (s.t.at e c).toNat < s.t.length := by have := (hI.bd e he c hc).2; omega
 have hle := hI.len e he
 have hld := hI.len _ hdl
 have hf := flp_lt2 hc
 obtain ⟨gr,cr,rfl,r1,r2,r3⟩ := hC.at_ he (c := c) (by omega)
 obtain ⟨gr',cr',e',p1,p2,p3⟩ := hC.at_ hdl (c := flp c) (by omega)
 injection e' with e1 e2 e3
 injection e1 with e1
 injection e1 with e1
 subst e1
 have hC1 := hC.set he (c := c) (by omega) (-1)
 have hbe := hC.row e he
 obtain ⟨Ce,hCe, -⟩ := id hbe.2.1
 have hB1 := hB.other ⟨Ce,hCe⟩ (by decide) c (.int .i64 (-1))
 have hlen1 : ({ s with t := set2 s.t e c (-1) } : St).t.length = s.t.length := length_set2 _ _ _ _
 obtain ⟨gr',cr',e',q1,q2,q3⟩ := hC1.at_ (r := (s.t.at e c).toNat) (c := flp c) (by rw [hlen1]; exact hdl) (by simp only [rowlen_set2]; omega)
 injection e' with e1 e2 e3
 injection e1 with e1
 injection e1 with e1
 subst e1
 have hC2 := hC1.set (r := (s.t.at e c).toNat) (c := flp c) (by rw [hlen1]; exact hdl) (by simp only [rowlen_set2]; omega) (-1)
 have hbd := hC1.row (s.t.at e c).toNat (by rw [hlen1]; exact hdl)
 obtain ⟨Cd,hCd, -⟩ := id hbd.2.1
 have hB2 := hB1.other ⟨Cd,hCd⟩ (by decide) (flp c) (.int .i64 (-1))
 simp only [rowlen_set2] at q1
 rw [hld] at q1 p1
 rw [hle] at r1
 exact ⟨gr,cr,bl e,cs e,bl (s.t.at e c).toNat,cs (s.t.at e c).toNat,_,hB.cells.2.2.1,r1,p1,r2,r3,hB1.cells.2.2.1,q1,q2,q3,⟨hb,P,_,vp,vq,bl,cs,hB2.of rfl rfl,hC2⟩,((Below.refl base w).setCell hbe.1 _).setCell hbd.1 _⟩
end Go.Proofs
namespace Go.Proofs
open Go.Shelf
end Go.Proofs
namespace Go.Proofs
open Go.RowKit Go.Proofs.Ct Go.Shelf
def rp (x : Int) (k c : Nat) : List Value := List.replicate k (.int .i64 x) ++ List.replicate (c - k) (.int .i64 0)
end Go.Proofs
namespace Go.Proofs
open Go.RowKit Go.Shelf Go.Proofs.Ct Go.Maps
theorem run_push_at {t ty e : TypeId} {z : Value} {bytes : Nat} (ht : Tryz.prog.underlying t = some (.slice e)) (hi : ∃ i,Tryz.prog.info? e = some i /\ i.zero = some z /\ i.size = 1 /\ i.bytes = bytes) (hz : z.cells.size = 1) (hby : bytes <= 1000)
   (w : World) (base : Nat) (v : Value) (n : Nat) (xs : List Value) (hown : w.ownsRow base e 1 v n xs) (x : Value) (h1 : x.oneCell' = true) (hn : n <= 10000000) (hb : base <= w.heap.size) (h : Nat) (hx : w.cell? ⟨h,0,none⟩ = some x) :
   ∃ A' c' w',(Builtin.append_ #[t,t] ty #[v, .slice (some ⟨h,0,none⟩) 1 1]).run Tryz.prog w = .ok (.slice A' (n + 1) c') w' /\ w'.ownsRow base e 1 (.slice A' (n + 1) c') (n + 1) (xs ++ [x]) /\
     w.grownBy w' v.ownBlock /\ ((Value.slice A' (n + 1) c').ownBlock = v.ownBlock \/ ∃ r,(Value.slice A' (n + 1) c').ownBlock = some r /\ w.heap.size <= r) := by
 obtain ⟨i,hi,hz',hs,hb'⟩ := hi
 have hnews : ∀ j u, [x][j]? = some u -> w.cell? ((⟨h,0,none⟩ : Addr).add j) = some u := fun j u hu => by
   match j,hu with
   | 0,hu => rw [Addr.add_lit,Nat.add_zero,hx]; simpa using hu
 obtain ⟨v',w',hr,hown',hg, -,hw⟩ := run_append_own_at (P := Tryz.prog) w base t ty e i z 1 bytes ht hi hz' hs hb' hz (by omega) v n xs hown ⟨h,0,none⟩ 1 1 [x] rfl hnews (fun u hu => by simp at hu; rw [hu]; exact h1) (by unfold maxLen; omega)
   (by have : (n + 1) * bytes <= 10000001 * 1000 := Nat.mul_le_mul (by omega) hby
       omega) hb
 obtain ⟨A',c',rfl⟩ := owns_form hown'
 refine ⟨A',c',w',hr,hown',hg, ?_⟩
 rcases hw with hw | hw
 · exact .inl hw
 · exact .inr ⟨_,hw,Nat.le_refl _⟩
structure CoreN (base : Nat) (w : World) (t : Tb) (q : List Nat) (P : List Int) (vr vp vq : Value) (bl cs : Nat -> Nat) : Prop where
 out : w.ownsRow base 35 1 vr t.length ((List.range t.length).map fun i => .slice (some ⟨bl i,0,none⟩) (t.row i).length (cs i))
 row : ∀ i,i < t.length -> base <= bl i /\ XsAt w (bl i) (t.row i) /\ (t.row i).length <= cs i /\ cs i <= 9223372036854775807
 inj : ∀ i j,i < t.length -> j < t.length -> bl i = bl j -> i = j
 par : OwnI base w vp P
 que : OwnI base w vq (nats q)
 sepP : ∀ i,i < t.length -> vp.ownBlock ≠ some (bl i)
 sepQ : ∀ i,i < t.length -> vq.ownBlock ≠ some (bl i)
 pq : ∀ r,vp.ownBlock = some r -> vq.ownBlock ≠ some r
section
variable {base : Nat} {w w' : World} {t : Tb} {q : List Nat} {P : List Int} {vr vp vq : Value} {bl cs : Nat -> Nat}
theorem CoreN.keep (h : CoreN base w t q P vr vp vq bl cs) (hk : ∀ k C e,base <= k -> w.heap[k]? = some (.cells C e (0,0)) -> (e = 3 \/ e = 35) -> w'.heap[k]? = w.heap[k]?) : CoreN base w' t q P vr vp vq bl cs := by
 refine ⟨owns_keep h.out fun r hr => ?_,fun i hi => ?_,h.inj,owns_keep h.par fun r hr => ?_,owns_keep h.que fun r hr => ?_,h.sepP,h.sepQ,h.pq⟩
 · obtain ⟨a,C,hC⟩ := owns_block h.out r hr
   exact hk r C 35 a hC (.inr rfl)
 · obtain ⟨a,b,c⟩ := h.row i hi
   obtain ⟨C,hC, -⟩ := id b
   exact ⟨a,b.keep (hk _ C 3 a hC (.inl rfl)),c⟩
 · obtain ⟨a,C,hC⟩ := owns_block h.par r hr
   exact hk r C 3 a hC (.inl rfl)
 · obtain ⟨a,C,hC⟩ := owns_block h.que r hr
   exact hk r C 3 a hC (.inl rfl)
theorem CoreN.below (h : CoreN base w t q P vr vp vq bl cs) (hb : Below w.heap.size w w') : CoreN base w' t q P vr vp vq bl cs :=
 h.keep fun k _C _e _ hC _ => hb.block k (Array.getElem?_eq_some_iff.1 hC).1
theorem CoreN.other (h : CoreN base w t q P vr vp vq bl cs) {b : Nat} {C0 : Array Value} {T : TypeId} (hb : w.heap[b]? = some (.cells C0 T (0,0))) (h3 : T ≠ 3) (h24 : T ≠ 35) (k : Nat) (v : Value) : CoreN base (w.setCell ⟨b,k,none⟩ v) t q P vr vp vq bl cs :=
 h.keep fun j C e _ hC he => Below.heap_setCell w ⟨b,k,none⟩ v j fun e' => by
   have e'' : j = b := e'
   rw [e'',hb] at hC
   cases hC
   rcases he with he | he <;> simp_all
theorem row_append (t : Tb) (x : List Int) (i : Nat) : Tb.row (t ++ [x]) i = if i < t.length then t.row i else if i = t.length then x else [] := by
 unfold Tb.row
 rw [List.getD_eq_getElem?_getD,List.getElem?_append]
 by_cases h : i < t.length
 · simp [h,List.getD_eq_getElem?_getD]
 · by_cases h2 : i = t.length
   · subst h2; simp
   · rw [if_neg h,if_neg h,if_neg h2,List.getElem?_eq_none (by simp; omega)]
     rfl
theorem CoreN.pushRow (h : CoreN base w t q P vr vp vq bl cs) (hbw : base <= w.heap.size) {g h0 m : Nat} {x : List Int} (hg : base <= g) (hx : XsAt w g x) (hm : x.length = m) (hm1 : m <= 1000) (hn : ∀ i,i < t.length -> bl i ≠ g) (hp : vp.ownBlock ≠ some g) (hq : vq.ownBlock ≠ some g) (hc : w.cell? ⟨h0,0,none⟩ = some (.slice (some ⟨g,0,none⟩) m m)) (hl : t.length <= 9000000) :
   ∃ A c w',(Builtin.append_ #[47,47] 47 #[vr, .slice (some ⟨h0,0,none⟩) 1 1]).run Tryz.prog w = .ok (.slice A (t.length + 1) c) w' /\ CoreN base w' (t ++ [x]) q P (.slice A (t.length + 1) c) vp vq (fun i => if i = t.length then g else bl i) (fun i => if i = t.length then m else cs i) /\ w.grownBy w' vr.ownBlock := by
 obtain ⟨A,c,w',hr,ho,hgr, -⟩ := run_push_at (t := 47) (ty := 47) Tryz.underlying47 info24p rfl (by omega) w base vr t.length _ h.out (.slice (some ⟨g,0,none⟩) m m) rfl (by omega) hbw h0 hc
 have hne : ∀ (k : Nat) (C : Array Value),w.heap[k]? = some (.cells C 3 (0,0)) -> w'.heap[k]? = w.heap[k]? := fun k C hC => hgr.block k (Array.getElem?_eq_some_iff.1 hC).1 fun e => by
   obtain ⟨-,C',hC'⟩ := owns_block h.out k e.symm
   rw [hC] at hC'
   cases hC'
 have hlen : (t ++ [x]).length = t.length + 1 := by simp
 refine ⟨A,c,w',hr,⟨?_,fun i hi => ?_,fun i j hi hj e => ?_,owns_keep h.par fun k hk => ?_,owns_keep h.que fun k hk => ?_,fun i hi => ?_,fun i hi => ?_,h.pq⟩,hgr⟩
 · rw [hlen]
   have e : ((List.range (t.length + 1)).map fun i => (.slice (some ⟨(if i = t.length then g else bl i),0,none⟩) (Tb.row (t ++ [x]) i).length (if i = t.length then m else cs i) : Value)) = (List.range t.length).map (fun i => (.slice (some ⟨bl i,0,none⟩) (t.row i).length (cs i) : Value)) ++ [.slice (some ⟨g,0,none⟩) m m] := by
     rw [List.range_succ,List.map_append]
     refine congr (congrArg (fun a b : List Value => a ++ b) ?_) ?_
     · refine List.map_congr_left fun i hi => ?_
       have hi' : i < t.length := List.mem_range.1 hi
       rw [if_neg (by omega),if_neg (by omega),row_append,if_pos hi']
     · rw [List.map_cons,List.map_nil,if_pos rfl,if_pos rfl,row_append,if_neg (Nat.lt_irrefl _),if_pos rfl,hm]
   rw [e]
   exact ho
 · rw [hlen] at hi
   by_cases e : i = t.length
   · subst e
     obtain ⟨C,hC, -⟩ := id hx
     simp only [if_true,row_append,Nat.lt_irrefl,if_false]
     exact ⟨hg,hx.keep (hne _ C hC),by omega,by omega⟩
   · have hi' : i < t.length := by omega
     obtain ⟨a,b,d⟩ := h.row i hi'
     obtain ⟨C,hC, -⟩ := id b
     simp only [if_neg e,row_append,if_pos hi']
     exact ⟨a,b.keep (hne _ C hC),d⟩
 · rw [hlen] at hi hj
   by_cases e1 : i = t.length
   · by_cases e2 : j = t.length
     · omega
     · simp only [if_pos e1,if_neg e2] at e
       exact absurd e.symm (hn j (by omega))
   · by_cases e2 : j = t.length
     · simp only [if_neg e1,if_pos e2] at e
       exact absurd e (hn i (by omega))
     · simp only [if_neg e1,if_neg e2] at e
       exact h.inj i j (by omega) (by omega) e
 · obtain ⟨-,C,hC⟩ := owns_block h.par k hk
   exact hne k C hC
 · obtain ⟨-,C,hC⟩ := owns_block h.que k hk
   exact hne k C hC
 · rw [hlen] at hi
   by_cases e : i = t.length
   · simp only [if_pos e]; exact hp
   · simp only [if_neg e]; exact h.sepP i (by omega)
 · rw [hlen] at hi
   by_cases e : i = t.length
   · simp only [if_pos e]; exact hq
   · simp only [if_neg e]; exact h.sepQ i (by omega)
end
end Go.Proofs
namespace Go.Proofs.Ct
structure Prm (d : Nat) (a : List Nat) : Prop where
 len : a.length = d
 nd : a.Nodup
 lt : ∀ x ∈ a,x < d
section
variable {d : Nat} {a b : List Nat}
theorem Prm.inj (h : Prm d a) {x y : Nat} (hx : x < d) (hy : y < d) (e : a.getD x 0 = a.getD y 0) : x = y := by
 have hx' : x < a.length := by rw [h.len]; exact hx
 have hy' : y < a.length := by rw [h.len]; exact hy
 rw [List.getD_eq_getElem?_getD,List.getElem?_eq_getElem hx',List.getD_eq_getElem?_getD,List.getElem?_eq_getElem hy'] at e
 have hp := List.pairwise_iff_getElem.1 h.nd
 simp only [Option.getD_some] at e
 rcases Nat.lt_trichotomy x y with hc | hc | hc
 · exact absurd e (hp x y hx' hy' hc)
 · exact hc
 · exact absurd e.symm (hp y x hy' hx' hc)
theorem Prm.surj (h : Prm d a) {x : Nat} (hx : x < d) : x ∈ a := by
 by_cases hm : x ∈ a
 · exact hm
 · have h1 := len_le_of_sub (a := x :: a) (b := List.range d) (List.nodup_cons.2 ⟨hm,h.nd⟩) (fun y hy => by
     rcases List.mem_cons.1 hy with rfl | hy
     · exact List.mem_range.2 hx
     · exact List.mem_range.2 (h.lt y hy))
   rw [List.length_cons,List.length_range,h.len] at h1
   omega
theorem Prm.back (h : Prm d a) {x : Nat} (hx : x < d) : a.idxOf x < d /\ a.getD (a.idxOf x) 0 = x := by
 have h1 := List.idxOf_lt_length_of_mem (h.surj hx)
 refine ⟨by rw [h.len] at h1; exact h1, ?_⟩
 rw [List.getD_eq_getElem?_getD,List.getElem?_eq_getElem h1]
 exact List.getElem_idxOf h1
def act2 (a b : List Nat) (p c : Nat) : Nat := if c = 0 then a.getD p 0 else if c = 1 then a.idxOf p else if c = 2 then b.getD p 0 else b.idxOf p
end
end Go.Proofs.Ct
namespace Go.Proofs
open Go.RowKit Go.Shelf Go.Proofs.Ct Go.Maps
section
variable {o : Oper} {a : Act} {w w' : World} {n : Nat} {v : Value} {ops : Array Oper}
theorem idx_offs {T E : TypeId} (hu : Tryz.prog.underlying T = some (.slice E)) (hs : ∀ w,(sizeOf E).run Tryz.prog w = .ok 1 w) (g off m c i : Nat) (hi : i < m) (w : World) :
   (Instr.indexAt T (.slice (some ⟨g,off,none⟩) m c) (.int .i64 (i : Int))).run Tryz.prog w = .ok (.pointer (some ⟨g,off + i,none⟩)) w := by
 have h1 : (0 : Int) <= (i : Int) /\ (i : Int) < (m : Int) := ⟨by omega,by omega⟩
 have h2 := Addr.add_mid g off i
 simp [Instr.indexAt,asIntOf,run_underlying hu,hs,h2,hi]
end
section
variable {N : Nat} {wr : Nat -> Bool} {us : Nat -> Nat -> Bool} {O : Nat -> Nat -> Prop} {i j : Nat} {w w' W0 : World} {base : Nat} {v : Value}
end
end Go.Proofs
namespace Go.Proofs
open Go.RowKit Go.Shelf Go.Proofs.Ct Go.Maps
section
variable {o : Oper} {a : Act} {w w' : World} {n : Nat} {v : Value}
theorem r_len (x : Operand) (T : TypeId) (A : Option Addr) (m c : Nat) {E : TypeId} (hT : Tryz.prog.underlying T = some (.slice E)) (ho : o.op = .call { callee := .builtin .len,args := #[x],argTypes := #[T] }) (hx : a.eval x = .slice A m c) : (execOp a.eval o).run Tryz.prog w = .ok (.value (.int .i64 (m : Int))) w := by
 unfold execOp
 simp only [ho,resolve,invoke,builtin,Sem.run_bind,Sem.run_pure,Result.andThen_ok,List.map_toArray,List.map_cons,List.map_nil,hx]
 simp [Builtin.len_,run_underlying hT,goInt]
end
def Still (N z : Nat) (i : Nat) (w w' : World) : Prop := (∀ k,N <= k -> k < w.heap.size -> w'.heap[k]? = w.heap[k]?) /\ (i ≠ z -> ∀ (k : Nat) (C : Array Value) (e : TypeId),w.heap[k]? = some (.cells C e (0,0)) -> (e = 3 \/ e = 35) -> w'.heap[k]? = w.heap[k]?)
theorem Still.same {N z i : Nat} {w : World} : Still N z i w w := ⟨fun _ _ _ => rfl,fun _ _ _ _ _ _ => rfl⟩
theorem Still.of_below {N z i : Nat} {w w' : World} (h : Below w.heap.size w w') : Still N z i w w' := ⟨fun k _ hk => h.block k hk,fun _ k _C _e hC _ => h.block k (Array.getElem?_eq_some_iff.1 hC).1⟩
theorem Still.box {N z i b : Nat} {w : World} {C0 : Array Value} (hb : w.heap[b]? = some (.cells C0 93 (0,0))) (hN : b < N) (k : Nat) (v : Value) : Still N z i w (w.setCell ⟨b,k,none⟩ v) :=
 ⟨fun j hj _ => Below.heap_setCell w ⟨b,k,none⟩ v j (fun e => by have e' : j = b := e; omega),fun _ j C e hC he => Below.heap_setCell w ⟨b,k,none⟩ v j fun e' => by
   have e'' : j = b := e'
   rw [e'',hb] at hC
   cases hC
   rcases he with he | he <;> cases he⟩
theorem Still.grown {N z : Nat} {w w' : World} {row : Option Nat} (h : w.grownBy w' row) (hr : ∀ r,row = some r -> r < N) : Still N z z w w' :=
 ⟨fun k hk hl => h.block k hl fun e => by have := hr k e.symm; omega,fun e => absurd rfl e⟩
def RowF (base N m : Nat) (t : Tb) (q : List Nat) (P : List Int) (b : Nat) (vr vp vq : Value) (bl cs : Nat -> Nat) : Nat -> Value -> World -> Prop
 | 5,v,w => ∃ g,v = .slice (some ⟨g,0,none⟩) 1 1 /\ N <= g /\ w.heap[g]? = some (.cells #[.int .i64 (-1)] 3 (0,0))
 | 10,v,w => ∃ g,v = .slice (some ⟨g,0,none⟩) m m /\ N <= g /\ w.heap[g]? = some (.cells (rp (-1) m m).toArray 3 (0,0))
 | 11,v,w => ∃ g h,v = .slice (some ⟨h,0,none⟩) 1 1 /\ N <= g /\ N <= h /\ w.heap[g]? = some (.cells (rp (-1) m m).toArray 3 (0,0)) /\ w.heap[h]? = some (.cells #[.slice (some ⟨g,0,none⟩) m m] 35 (0,0))
 | 12,v,w => ∃ A c g,v = .slice A (t.length + 1) c /\ CoreN base w (t ++ [List.replicate m (-1)]) q P v vp vq (fun i => if i = t.length then g else bl i) (fun i => if i = t.length then m else cs i)
 | i,v,_ => v = ([.pointer (some ⟨b,0,none⟩), .pointer (some ⟨b,0,none⟩), .pointer (some ⟨b,0,none⟩), .pointer (some ⟨b,2,none⟩),vr,undef, .pointer (some ⟨b,0,none⟩), .pointer (some ⟨b,0,none⟩), .pointer (some ⟨b,0,none⟩), .int .i64 (m : Int),undef,undef,undef, .pointer (some ⟨b,0,none⟩), .pointer (some ⟨b,2,none⟩),undef] : List Value).getD i undef
theorem RowF.keep {base N m b : Nat} {t : Tb} {q : List Nat} {P : List Int} {vr vp vq : Value} {bl cs : Nat -> Nat} : ∀ (i j : Nat) (v : Value) (w w' : World),i < 16 -> j < 16 -> i ≠ j -> Still N 12 i w w' -> RowF base N m t q P b vr vp vq bl cs j v w -> RowF base N m t q P b vr vp vq bl cs j v w' := by
 intro i j v w w' hi hj hne hS h
 have hk : ∀ (g : Nat) (o : Obj),N <= g -> w.heap[g]? = some o -> w'.heap[g]? = some o := fun g o hg ho => (hS.1 g hg (Array.getElem?_eq_some_iff.1 ho).1).trans ho
 have hcases : j = 5 \/ j = 10 \/ j = 11 \/ j = 12 \/ (j ≠ 5 /\ j ≠ 10 /\ j ≠ 11 /\ j ≠ 12) := by omega
 rcases hcases with rfl | rfl | rfl | rfl | ⟨h1,h2,h3,h4⟩
 · obtain ⟨g,e,hg,hc⟩ := h
   exact ⟨g,e,hg,hk g _ hg hc⟩
 · obtain ⟨g,e,hg,hc⟩ := h
   exact ⟨g,e,hg,hk g _ hg hc⟩
 · obtain ⟨g,h0,e,hg,hh,hc,hc2⟩ := h
   exact ⟨g,h0,e,hg,hh,hk g _ hg hc,hk h0 _ hh hc2⟩
 · obtain ⟨A,c,g,e,hC⟩ := h
   exact ⟨A,c,g,e,hC.keep fun k C e0 _ hC' he => hS.2 hne k C e0 hC' he⟩
 · unfold RowF at h ⊢
   split at h <;> first | contradiction | exact h
end Go.Proofs
namespace Go.Proofs
open Go.RowKit Go.Shelf Go.Proofs.Ct Go.Maps
structure ImgS (w0 wr : World) (B g : Nat) (f : Nat -> List Int) (vs : Nat -> Value) : Prop where
 below : Below w0.heap.size w0 wr
 ge : w0.heap.size <= B
 blk : ∃ C,wr.heap[B]? = some (.cells C 35 (0,0)) /\ ∀ c,c < g -> C[c]? = some (vs c)
 row : ∀ c,c < g -> OwnI w0.heap.size wr (vs c) (f c)
 ap : ∀ c d,c < g -> d < g -> c ≠ d -> ∀ r,(vs c).ownBlock = some r -> (vs d).ownBlock ≠ some r
section
variable {w0 wr : World} {B g : Nat} {f : Nat -> List Int} {vs : Nat -> Value}
theorem ImgS.lt (h : ImgS w0 wr B g f vs) : B < wr.heap.size := by obtain ⟨C,hC, -⟩ := h.blk; exact (Array.getElem?_eq_some_iff.1 hC).1
theorem ImgS.own (h : ImgS w0 wr B g f vs) {c : Nat} (hc : c < g) : (vs c).ownBlock ≠ some B := fun e => by
 obtain ⟨-,C,hC⟩ := owns_block (h.row c hc) B e
 obtain ⟨C',hC', -⟩ := h.blk
 rw [hC'] at hC
 cases hC
theorem ImgS.below' {w' : World} (h : ImgS w0 wr B g f vs) (hb : Below wr.heap.size wr w') : ImgS w0 w' B g f vs := by
 obtain ⟨C,hC,h1⟩ := h.blk
 exact ⟨h.below.trans (hb.mono h.below.size),h.ge,⟨C,(hb.block _ h.lt).trans hC,h1⟩,fun c hc => owns_below (h.row c hc) hb,h.ap⟩
theorem ImgS.cell (h : ImgS w0 wr B g f vs) {c : Nat} (hc : c < g) : wr.cell? ⟨B,c,none⟩ = some (vs c) := by
 obtain ⟨C,hC,h1⟩ := h.blk
 rw [cell_of_row _ _ _ _ _ _ hC]
 exact h1 c hc
theorem ImgS.frozen (h : ImgS w0 wr B g f vs) (c : Nat) : wr.frozen? ⟨B,c,none⟩ = false := by
 obtain ⟨C,hC, -⟩ := h.blk
 simp [World.frozen?,hC]
theorem ImgS.push (h : ImgS w0 wr B g f vs) {c : Nat} (hc : c < g) (z : Int) (hl : (f c).length <= 9000000) :
   ∃ A' c' w',(Builtin.append_ #[35,35] 35 #[vs c, .slice (some ⟨wr.heap.size,0,none⟩) 1 1]).run Tryz.prog (wr.alloc (.cells #[.int .i64 z] 3)) = .ok (.slice A' ((f c).length + 1) c') w' /\
     w'.cell? ⟨B,c,none⟩ = some (vs c) /\ w'.frozen? ⟨B,c,none⟩ = false /\
     ImgS w0 (w'.setCell ⟨B,c,none⟩ (.slice A' ((f c).length + 1) c')) B g (fun d => if d = c then f c ++ [z] else f d) (fun d => if d = c then .slice A' ((f c).length + 1) c' else vs d) := by
 obtain ⟨A',c',w',hr,ho,hg,hw⟩ := push_int 35 35 Tryz.underlying35 wr w0.heap.size (vs c) (f c) (h.row c hc) z (by omega) h.below.size
 obtain ⟨C,hC,h1⟩ := h.blk
 have hCB : w'.heap[B]? = some (.cells C 35 (0,0)) := (hg.block B h.lt (fun e => h.own hc e.symm)).trans hC
 have hrow : ∀ d,d < g -> d ≠ c -> OwnI w0.heap.size w' (vs d) (f d) := fun d hd hne => owns_keep (h.row d hd) fun r hr' => hg.block r (owns_lt (h.row d hd) hr') fun e => h.ap d c hd hc hne r hr' e.symm
 have hset : ∀ {u : Value} {x : List Int},OwnI w0.heap.size w' u x -> OwnI w0.heap.size (w'.setCell ⟨B,c,none⟩ (.slice A' ((f c).length + 1) c')) u x := fun {u x} hu => owns_keep hu fun r hr' => Below.heap_setCell w' ⟨B,c,none⟩ _ r fun e => by
   have e' : r = B := e
   obtain ⟨-,C',hC'⟩ := owns_block hu r hr'
   rw [e',hCB] at hC'
   cases hC'
 refine ⟨A',c',w',hr,by rw [cell_of_row _ _ _ _ _ _ hCB]; exact h1 c hc,by simp [World.frozen?,hCB], ?_,h.ge,⟨C.setIfInBounds c (.slice A' ((f c).length + 1) c'),by simp [World.setCell,Array.getElem?_modify,hCB],fun d hd => ?_⟩,fun d hd => ?_,fun d1 d2 hd1 hd2 hne r hr1 => ?_⟩
 · exact (h.below.grown hg h.below.size (fun r hr' => (owns_block (h.row c hc) r hr').1)).setCell h.ge _
 · by_cases e : d = c
   · subst e
     have hsz : d < C.size := (Array.getElem?_eq_some_iff.1 (h1 d hd)).1
     simp [hsz]
   · skip
     rw [if_neg e,Array.getElem?_setIfInBounds_ne (fun e' => e e'.symm)]
     exact h1 d hd
 · by_cases e : d = c
   · rw [if_pos e,if_pos e]
     exact hset ho
   · rw [if_neg e,if_neg e]
     exact hset (hrow d hd e)
 · skip
   by_cases e1 : d1 = c
   · rw [if_pos e1] at hr1
     rw [if_neg (by omega)]
     rcases hw with hw | ⟨r',hw,hge⟩
     · rw [hw] at hr1
       exact h.ap c d2 hc hd2 (by omega) r hr1
     · rw [hw] at hr1
       cases hr1
       intro e
       have := owns_lt (h.row d2 hd2) e
       omega
   · rw [if_neg e1] at hr1
     by_cases e2 : d2 = c
     · rw [if_pos e2]
       rcases hw with hw | ⟨r',hw,hge⟩
       · rw [hw]
         exact h.ap d1 c hd1 hc (by omega) r hr1
       · rw [hw]
         intro e
         cases e
         have := owns_lt (h.row d1 hd1) hr1
         omega
     · rw [if_neg e2]
       exact h.ap d1 d2 hd1 hd2 hne r hr1
theorem ImgS.tab (h : ImgS w0 wr B g f vs) (hf : ∀ c,c < g -> Fits (f c)) (hg : g <= 9000000) : Tab wr (.slice (some ⟨B,0,none⟩) g g) ((List.range g).map f) := by
 refine ⟨(List.range g).map vs,⟨_,g,g,rfl,by simp,Nat.le_refl _,by simp [maxLen]; omega,fun _ => ⟨B,0,rfl,fun j v hj => ?_⟩⟩,by simp,fun i hi => ?_⟩
 · have hj' : j < g := by have := (List.getElem?_eq_some_iff.1 hj).1; simpa using this
   rw [Nat.zero_add,h.cell hj']
   simpa [hj'] using hj
 · have hi' : i < g := by simpa using hi
   refine ⟨vs i,by simp [hi'], ?_⟩
   have := OwnI.ints (h.row i hi') (hf i hi')
   simpa [List.getD_eq_getElem?_getD,hi'] using this
end
theorem ImgS.first {w0 w : World} (h : Below w0.heap.size w0 w) (g : Nat) : ImgS w0 (w.alloc (.cells (Array.replicate g (.slice none 0 0)) 35)) w.heap.size g (fun _ => []) (fun _ => .slice none 0 0) :=
 ⟨h.alloc h.size _,h.size,⟨_,heap_alloc_new w _,fun c hc => by simp [hc]⟩,fun _ _ => World.ownsRow_nil _ _ _ _,fun _ _ _ _ _ _ hr => by cases hr⟩
end Go.Proofs
namespace Go.Proofs
open Go.RowKit Go.Shelf Go.Proofs.Ct Go.Maps
theorem bl3T {a b c : World} (h1 : Below a.heap.size a b) (h2 : Below b.heap.size b c) : Below a.heap.size a c := h1.trans (h2.mono h1.size)
def knB (n m : Nat) : List Value := (List.range n).map fun i => Value.bool (decide (i < m))
structure LST (R : List (List Int)) (n : Nat) (W0 : World) (kb bb mk mb : Nat) (vl vn : Value) (ll ln : List Int) (w : World) : Prop where
 below : Below W0.heap.size W0 w
 kbl : W0.heap.size <= kb
 bbl : W0.heap.size <= bb
 known : w.heap[kb]? = some (.cells (knB n mk).toArray 4 (0,0))
 best : ∃ (vals : List Value) (F : Nat -> Prop),w.heap[bb]? = some (.cells vals.toArray 36 (0,0)) /\ vals.length = n /\ (∀ j,j < mb -> ∃ u,vals[j]? = some u /\ IntsF F w u (R.getD j [])) /\ (∀ k,F k -> W0.heap.size <= k /\ k < w.heap.size /\ k ≠ kb /\ k ≠ bb /\ vn.ownBlock ≠ some k)
 lay : OwnI W0.heap.size w vl ll
 nxt : OwnI W0.heap.size w vn ln
 sep : ∀ r,vl.ownBlock = some r -> vn.ownBlock ≠ some r
section
variable {R : List (List Int)} {n : Nat} {W0 w w' : World} {kb bb mk mb : Nat} {vl vn : Value} {ll ln : List Int}
theorem own3 {base : Nat} {v : Value} {xs : List Int} (h : OwnI base w v xs) {q : Nat} {C : Array Value} {T : TypeId} (hq : w.heap[q]? = some (.cells C T (0,0))) (hT : T ≠ 3) : v.ownBlock ≠ some q := fun e => by
 obtain ⟨-,C',hC'⟩ := owns_block h q e
 rw [hq] at hC'
 injection hC' with h1
 injection h1 with h2 h3
 exact hT h3
theorem LST.ne (h : LST R n W0 kb bb mk mb vl vn ll ln w) : kb ≠ bb := fun e => by
 obtain ⟨vals,F,h1, -⟩ := h.best
 rw [<- e,h.known] at h1
 injection h1 with h2
 injection h2 with h3 h4
 cases h4
theorem LST.lk (h : LST R n W0 kb bb mk mb vl vn ll ln w) : vl.ownBlock ≠ some kb /\ vl.ownBlock ≠ some bb /\ vn.ownBlock ≠ some kb /\ vn.ownBlock ≠ some bb := by
 obtain ⟨vals,F,h1, -⟩ := h.best
 exact ⟨own3 h.lay h.known (by decide),own3 h.lay h1 (by decide),own3 h.nxt h.known (by decide),own3 h.nxt h1 (by decide)⟩
theorem LST.move (h : LST R n W0 kb bb mk mb vl vn ll ln w) (hb : Below w.heap.size w w') : LST R n W0 kb bb mk mb vl vn ll ln w' := by
 obtain ⟨vals,F,h1,h2,h3,h4⟩ := h.best
 exact ⟨bl3T h.below hb,h.kbl,h.bbl,(hb.block _ (Array.getElem?_eq_some_iff.1 h.known).1).trans h.known,
   ⟨vals,F,(hb.block _ (Array.getElem?_eq_some_iff.1 h1).1).trans h1,h2,fun j hj => let ⟨u,hu,hi⟩ := h3 j hj; ⟨u,hu,hi.keep (Ag.below hb fun k hk => (h4 k hk).2.1)⟩,fun k hk => ⟨(h4 k hk).1,Nat.lt_of_lt_of_le (h4 k hk).2.1 hb.size,(h4 k hk).2.2⟩⟩,
   owns_below h.lay hb,owns_below h.nxt hb,h.sep⟩
theorem LST.put (h : LST R n W0 kb bb mk mb vl vn ll ln w) {A : Option Addr} {c : Nat} {B : Nat} (hB : ∀ r,vn.ownBlock = some r -> r < B) (hB2 : kb < B /\ bb < B /\ W0.heap.size <= B) (ho : OwnI B w (.slice A (R.getD mb []).length c) (R.getD mb [])) (hf : Fits (R.getD mb [])) (hn : mb < n) :
   LST R n W0 kb bb mk (mb + 1) vl vn ll ln (w.setCell ⟨bb,mb,none⟩ (.slice A (R.getD mb []).length c)) := by
 obtain ⟨vals,F,h1,h2,h3,h4⟩ := h.best
 obtain ⟨k1,k2,k3,k4⟩ := h.lk
 have hoo : ∀ k,k ≠ bb -> (w.setCell ⟨bb,mb,none⟩ (.slice A (R.getD mb []).length c)).heap[k]? = w.heap[k]? := fun k hk => heap_setCell_other w _ k _ hk
 have hsz : (w.setCell ⟨bb,mb,none⟩ (.slice A (R.getD mb []).length c)).heap.size = w.heap.size := by simp [World.setCell]
 have hI := IntsF.of_own ho hf
 have hG : ∀ k,(Value.slice A (R.getD mb []).length c).ownBlock = some k -> B <= k /\ k < w.heap.size := fun k hk => ⟨(owns_block ho k hk).1,owns_lt ho hk⟩
 refine ⟨⟨h.below.os,h.below.tape,h.below.output,by rw [hsz]; exact h.below.size,fun k hk => (hoo k (by have := h.bbl; omega)).trans (h.below.block k hk)⟩,h.kbl,h.bbl,(hoo kb h.ne).trans h.known,
   ⟨vals.set mb (.slice A (R.getD mb []).length c),fun k => F k \/ (Value.slice A (R.getD mb []).length c).ownBlock = some k, ?_,by simp [h2],fun j hj => ?_,fun k hk => ?_⟩,
   owns_keep h.lay fun r hr => hoo r fun e => k2 (by rw [hr,e]),owns_keep h.nxt fun r hr => hoo r fun e => k4 (by rw [hr,e]),h.sep⟩
 · rw [box_set h1]
   simp
 · by_cases e : j = mb
   · subst e
     exact ⟨_,by simp [h2,hn],(hI.keep fun k hk => hoo k fun e => by have := (hG k hk).1; omega).mono fun k hk => .inr hk⟩
   · obtain ⟨u,hu,hi⟩ := h3 j (by omega)
     refine ⟨u,by rw [List.getElem?_set,if_neg (fun h => e h.symm)]; exact hu,(hi.keep fun k hk => hoo k (h4 k hk).2.2.2.1).mono fun k hk => .inl hk⟩
 · rw [hsz]
   rcases hk with hk | hk
   · exact h4 k hk
   · obtain ⟨g1,g2⟩ := hG k hk
     exact ⟨by omega,g2,by omega,by omega,fun e => by have := hB k e; omega⟩
theorem LST.app (h : LST R n W0 kb bb mk mb vl vn ll ln w) {A : Option Addr} {c : Nat} {x : Int} (ho : OwnI W0.heap.size w' (.slice A (ln.length + 1) c) (ln ++ [x])) (hg : w.grownBy w' vn.ownBlock) (hw : (Value.slice A (ln.length + 1) c).ownBlock = vn.ownBlock \/ ∃ r,(Value.slice A (ln.length + 1) c).ownBlock = some r /\ w.heap.size <= r) :
   LST R n W0 kb bb mk mb vl (.slice A (ln.length + 1) c) ll (ln ++ [x]) w' := by
 obtain ⟨vals,F,h1,h2,h3,h4⟩ := h.best
 obtain ⟨k1,k2,k3,k4⟩ := h.lk
 have hk : ∀ k,k < w.heap.size -> vn.ownBlock ≠ some k -> w'.heap[k]? = w.heap[k]? := fun k h1 h2 => hg.block k h1 fun e => h2 e.symm
 have hkl := (Array.getElem?_eq_some_iff.1 h.known).1
 have hbl := (Array.getElem?_eq_some_iff.1 h1).1
 have hne : ∀ k,k < w.heap.size -> vn.ownBlock ≠ some k -> (Value.slice A (ln.length + 1) c).ownBlock ≠ some k := fun k h1 h2 e => by
   rcases hw with hw | ⟨r,hw,hr⟩
   · exact h2 (by rw [<- hw]; exact e)
   · rw [hw] at e
     have := Option.some.inj e
     omega
 refine ⟨grown_below rfl h.below hg fun r hr => (owns_block h.nxt r hr).1,h.kbl,h.bbl,(hk kb hkl k3).trans h.known,
   ⟨vals,F,(hk bb hbl k4).trans h1,h2,fun j hj => let ⟨u,hu,hi⟩ := h3 j hj; ⟨u,hu,hi.keep fun k hF => hk k (h4 k hF).2.1 (h4 k hF).2.2.2.2⟩,fun k hF => ⟨(h4 k hF).1,Nat.lt_of_lt_of_le (h4 k hF).2.1 hg.size,(h4 k hF).2.2.1,(h4 k hF).2.2.2.1,hne k (h4 k hF).2.1 (h4 k hF).2.2.2.2⟩⟩,
   owns_keep h.lay fun r hr => hk r (owns_lt h.lay hr) (h.sep r hr),ho,fun r hr => hne r (owns_lt h.lay hr) (h.sep r hr)⟩
end
theorem frozen_row {w : World} {b : Nat} {C : Array Value} {T : TypeId} (h : w.heap[b]? = some (.cells C T (0,0))) (k : Nat) : w.frozen? ⟨b,k,none⟩ = false := by
 simp [World.frozen?,h]
end Go.Proofs
namespace Go.Proofs
open Go.RowKit Go.Shelf Go.Lib Go.Proofs.Ct Go.Proofs.Tz
theorem run_append_zerosW (w : World) (n : Nat) (h0 : 0 < n) (hn : n <= 1000000) :
   (Builtin.append_ #[22,3] 22 #[.slice none 0 0, .int .i64 (n : Int)]).run Tryz.prog w =
     .ok (.slice (some ⟨w.heap.size,0,none⟩) n (grownCap w n 0 36)) (w.drew.alloc (.cells (Builtin.zeroCells #[.slice none 0 0] n ++ Builtin.zeroCells #[.slice none 0 0] (grownCap w n 0 36 - n)) 36)) := by
 obtain ⟨i,hi,hz,hs,hby⟩ := info25p
 have hwr : IntKind.i64.wrap (n : Int) = n := IntWalk.i64_in _ (by omega)
 have hn0 : n ≠ 0 := by omega
 have h48 : ¬ (281474976710656 < Builtin.nextslicecap n 0 * i.bytes) := by rw [nextslicecap_zero h0,hby]; omega
 have h48' : ¬ ((281474976710656 : Int) < (n : Int) * (i.bytes : Int)) := by rw [hby]; omega
 have h63' : ¬ (9223372036854775807 < (n : Int)) := by omega
 have hneg : ¬ ((n : Int) < 0) := by omega
 simp [Builtin.append_,run_underlying Tryz.underlying22,run_underlying Tryz.underlying3,sizeOf,typeInfo,zeroValue,hi,hz,hs,asInt,asIntOf,hwr,hneg,h48',hn0,h48,h63',Question.forced,run_firstCells_none,newRow,grownCap,Value.cells]
theorem r_app2W {o : Oper} {a : Act} {w w' : World} (s x : Operand) (t u : TypeId) {sv xv v' : Value} (ho : o.op = .call { callee := .builtin .append,args := #[s,x],argTypes := #[t,u] }) (hs : a.eval s = sv) (hx : a.eval x = xv)
   (hr : (Builtin.append_ #[t,u] o.type #[sv,xv]).run Tryz.prog w = .ok v' w') : (execOp a.eval o).run Tryz.prog w = .ok (.value v') w' := by
 unfold execOp
 simp only [ho,resolve,invoke,builtin,Sem.run_bind,Sem.run_pure,Result.andThen_ok,List.map_toArray,List.map_cons,List.map_nil,hs,hx,hr]
def ValsPost (base : Nat) (x : List Value) (w : World) (e : Ending) (w' : World) : Prop := ∃ A c,e = .returned (.slice A x.length c) /\ w'.ownsRow base 36 1 (.slice A x.length c) x.length x /\ Below w.heap.size w w'
set_option maxRecDepth 100000 in
theorem grow43_any (w : World) (n : Nat) (hn : n <= 1000000) : Calls Tryz.prog 71 #[.slice none 0 0, .int .i64 (n : Int)] w (ValsPost w.heap.size [] w) := by
 have hn0 : (0 : Int) <= (n : Int) := Int.natCast_nonneg _
 have hn1 : (n : Int) <= 1000000 := by omega
 by_cases h0 : n = 0
 · subst h0
   go_enter Tryz.func71,Tryz.ntmps71
   go_wp2_with fail
   go_ret
   exact ⟨none,0,rfl,World.ownsRow_nil _ _ _ _,Below.refl _ _⟩
 · have hpos : (0 : Int) < (n : Int) := by omega
   have hr := run_append_zerosW w n (by omega) hn
   have hcm := grownCap_le_maxLen w n 0 36 (by unfold maxLen; omega)
   have hcg := grownCap_ge w n 0 36
   have hsz : (Builtin.zeroCells #[Value.slice none 0 0] n ++ Builtin.zeroCells #[Value.slice none 0 0] (grownCap w n 0 36 - n)).size = grownCap w n 0 36 := by
     simp [size_zeroCells]; omega
   have hnew := heap_alloc_new w.drew (.cells (Builtin.zeroCells #[Value.slice none 0 0] n ++ Builtin.zeroCells #[Value.slice none 0 0] (grownCap w n 0 36 - n)) 36)
   have hbel : Below w.heap.size w (w.drew.alloc (.cells (Builtin.zeroCells #[Value.slice none 0 0] n ++ Builtin.zeroCells #[Value.slice none 0 0] (grownCap w n 0 36 - n)) 36)) := (below_drewN (Below.refl w.heap.size w) 1).alloc (Nat.le_refl _) _
   generalize Builtin.zeroCells #[Value.slice none 0 0] n ++ Builtin.zeroCells #[Value.slice none 0 0] (grownCap w n 0 36 - n) = C at *
   generalize grownCap w n 0 36 = cap at *
   have hown : (w.drew.alloc (.cells C 36)).ownsRow w.heap.size 36 1 (.slice (some ⟨w.heap.size,0,none⟩) 0 cap) 0 [] := ⟨rfl, .inr ⟨w.heap.size,cap,C,rfl,Nat.le_refl _,hnew,Nat.zero_le _,hcm,by omega,by simp⟩⟩
   generalize w.drew.alloc (.cells C 36) = W at *
   have hcm' : cap <= 9223372036854775807 := by unfold maxLen at hcm; exact hcm
   have hcg' : (n : Int) <= (cap : Int) := by omega
   have HR := Lib.hid hr
   have HO := Lib.hid hown
   have HB := Lib.hid hbel
   clear hr hown hbel hnew hsz hcm
   go_enter Tryz.func71,Tryz.ntmps71
   go_wp2_with ((with_reducible refine wpList_sel 22 ?_); refine wpList_val rfl (r_app2W (.tmp 20) (.tmp 21) 22 3 rfl rfl rfl HR.out) ?_)
   go_ret
   exact ⟨_,cap,rfl,HO.out,HB.out⟩
def SlV (w : World) (v : Value) (xs : List Value) : Prop := Sl w v xs /\ ∀ y ∈ xs,y.oneCell' = true
theorem SlV.below {w w' : World} {v : Value} {xs : List Value} (h : SlV w v xs) (hb : Below w.heap.size w w') : SlV w' v xs := ⟨h.1.below hb,h.2⟩
def catV (xs : List (List Value)) (k : Nat) : List Value := (xs.take k).flatten
theorem catV_succ (xs : List (List Value)) {k : Nat} (hk : k < xs.length) : catV xs (k + 1) = catV xs k ++ xs.getD k [] := by
 unfold catV
 rw [List.take_succ_eq_append_getElem hk,List.flatten_append]
 simp [List.getD_eq_getElem?_getD,hk]
theorem catV_mono (xs : List (List Value)) {k m : Nat} (h : k <= m) (hm : m <= xs.length) : (catV xs k).length <= (catV xs m).length := by
 obtain ⟨d,rfl⟩ := Nat.exists_eq_add_of_le h
 clear h
 induction d with
 | zero => exact Nat.le_refl _
 | succ d ih =>
   have := ih (by omega)
   rw [<- Nat.add_assoc,catV_succ xs (by omega),List.length_append]
   omega
set_option maxRecDepth 100000 in
set_option maxHeartbeats 1000000 in
theorem concat25w_any (w : World) (v : Value) (xs : List (List Value)) (h : LAt SlV [] w v xs) (hl : (catV xs xs.length).length <= 1000000) : Calls Tryz.prog 32 #[v] w (ValsPost w.heap.size (catV xs xs.length) w) := by
 obtain ⟨A0,c0,rfl,hc1,hc2,hc⟩ := h.open_
 have HC := Lib.hid hc
 clear hc h
 have hx0 : (0 : Int) <= (xs.length : Int) := Int.natCast_nonneg _
 go_enter Tryz.func32,Tryz.ntmps32
 go_wp2_with fail
 go_loop [3,11] (fun so i => ∃ k n : Nat,i = .int .i64 k /\ k <= xs.length /\ so = .int .i64 n /\ Hid (n = (catV xs k).length)) (fun _ i => xs.length - (intOf i).toNat)
 case atStart => exact ⟨0,0,rfl,by omega,rfl,Lib.hid rfl⟩
 case round =>
   obtain ⟨k,n,rfl,hk,rfl,HN⟩ := hrel
   have hk0 : (0 : Int) <= (k : Int) := Int.natCast_nonneg _
   have hn0 : (0 : Int) <= (n : Int) := Int.natCast_nonneg _
   by_cases hlt : k < xs.length
   · have hlt' : (k : Int) < (xs.length : Int) := by omega
     obtain ⟨b,o,rfl,hcc⟩ := HC.out (by omega)
     obtain ⟨u,hu,hI⟩ := hcc k hlt
     obtain ⟨A5,q,c5,rfl,h1,h2,h3, -⟩ := hI.1
     have hst := catV_succ xs hlt
     have hmo := catV_mono xs (k := k + 1) (m := xs.length) (by omega) (by omega)
     have hb : (n : Int) + (q : Int) <= 1000000 := by have := HN.out; rw [hst,List.length_append] at hmo; omega
     have HN2 : Hid (n + q = (catV xs (k + 1)).length) := Lib.hid (by rw [hst,List.length_append,HN.out,h1])
     clear hcc hI hst hmo h1
     unfold maxLen at h3
     have hq0 : (0 : Int) <= (q : Int) := Int.natCast_nonneg _
     go_wp2_with fail
     go_round
     case rel => exact ⟨k + 1,n + q,by go_num,by omega,by go_num,HN2⟩
     case measure => simp [intOf]; omega
   · obtain rfl : k = xs.length := by omega
     have HG := Lib.hid (grow43_any w n (by have := HN.out; omega))
     go_wp2_with (go_at_call 71; (refine HG.out.mono ?_); rintro e w1 ⟨A1,c1,rfl,ho,hb⟩; have HO := Lib.hid ho; have HB := Lib.hid hb; clear ho hb)
     go_loopw [6,27] (fun so i wr => ∃ k n : Nat,i = .int .i64 k /\ k <= xs.length /\ Hid (n = (catV xs k).length) /\ ∃ A c,so = .slice A n c /\ Hid (wr.ownsRow w.heap.size 36 1 so n (catV xs k) /\ Below w.heap.size w wr)) (fun _ i _ => xs.length - (intOf i).toNat)
     case atStart => exact ⟨0,0,rfl,by omega,Lib.hid rfl,_,_,rfl,Lib.hid ⟨HO.out,HB.out⟩⟩
     case round =>
       clear HO HB HG HN hn0 hk0
       obtain ⟨k,n,rfl,hk,HN,A,c,rfl,HS⟩ := hrel
       have hk0 : (0 : Int) <= (k : Int) := Int.natCast_nonneg _
       by_cases hlt : k < xs.length
       · have hlt' : (k : Int) < (xs.length : Int) := by omega
         obtain ⟨b,o,rfl,hcc⟩ := HC.out (by omega)
         obtain ⟨u,hu,hI⟩ := hcc k hlt
         have hu' := (HS.out.2.cell (p := ⟨b,o + k,none⟩) (World.block_lt_of_cell? w _ hu)).trans hu
         have hmo := catV_mono xs (k := k + 1) (m := xs.length) (by omega) (by omega)
         have hst := catV_succ xs hlt
         have hnl := HN.out
         rw [hst,List.length_append] at hmo
         obtain ⟨A',c',w',hr,ho,hg, -⟩ := run_app (ty := 22) Tryz.underlying22 info25p rfl (by omega) wr w.heap.size (.slice A n c) n (catV xs k) HS.out.1 u (xs.getD k []) (hI.1.below HS.out.2) hI.2 (by omega) (by omega) HS.out.2.size
         rw [<- hst] at ho
         have HR := Lib.hid hr
         have HN2 : Hid (n + (xs.getD k []).length = (catV xs (k + 1)).length) := Lib.hid (by rw [hst,List.length_append,HN.out])
         have HS2 : Hid (w'.ownsRow w.heap.size 36 1 (.slice A' (n + (xs.getD k []).length) c') (n + (xs.getD k []).length) (catV xs (k + 1)) /\ Below w.heap.size w w') := Lib.hid ⟨ho,HS.out.2.grown hg HS.out.2.size (fun r hr => (owns_block HS.out.1 r hr).1)⟩
         clear hcc hu hI hmo hst hr ho hg hnl
         generalize (xs.getD k []).length = q at *
         go_wp2_with ((with_reducible refine wpList_sel 33 ?_); refine wpList_val rfl (r_app (.tmp 31) (.tmp 32) 22 rfl rfl rfl HR.out) ?_)
         go_roundw
         case rel => exact ⟨k + 1,_,by go_num,by omega,HN2,_,_,rfl,HS2⟩
         case measure => simp [intOf]; omega
       · obtain rfl : k = xs.length := by omega
         go_wp2_with fail
         go_ret
         exact ⟨A,c,by rw [<- HN.out]; rfl,by rw [<- HN.out]; exact HS.out.1,HS.out.2⟩
end Go.Proofs
namespace Go.Proofs
open Go.RowKit Go.Shelf Go.Lib Go.Sort Go.Proofs.Ct Go.Proofs.Tz Go.Maps
def IdxAt (p : Int -> Bool) (xs : List Int) (e : Ending) : Prop := (e = .returned (.int .i64 (-1)) /\ ∀ j,j < xs.length -> p (xs.getD j 0) = false) \/ ∃ k : Nat,e = .returned (.int .i64 (k : Int)) /\ k < xs.length /\ p (xs.getD k 0) = true /\ ∀ j,j < k -> p (xs.getD j 0) = false
section
variable (g : Nat) (lb : Array Value) (ok : Int -> Prop) (p : Int -> Bool) (w : World) (eg : ∀ args w,(callFunc g args).run Tryz.prog w = .ok (.enter g args) w) (hp : PredW g lb ok p w) (v : Value) (xs : List Int) (h : IntsAt w v xs) (hok : ∀ x ∈ xs,ok x)
include eg hp h hok
set_option maxHeartbeats 400000 in
theorem idx37_at : Calls Tryz.prog 65 #[v, .func (.func g) #[] lb] w fun e w' => IdxAt p xs e /\ ∃ q,w' = w.drewN q := by
 obtain ⟨A,c,rfl,hc1,hc2,hc⟩ := h.open_
 have HC := Lib.hid hc
 have HP := Lib.hid hp
 have HK := Lib.hid hok
 clear hc hp h hok
 go_enter Tryz.func65,Tryz.ntmps65
 go_wp2_with fail
 go_loopw [5,8] (fun _ i wr => ∃ k : Nat,k <= xs.length /\ i = .int .i64 k /\ (∀ j,j < k -> p (xs.getD j 0) = false) /\ ∃ q,wr = w.drewN q) (fun _ i _ => xs.length - (intOf i).toNat)
 case atStart => exact ⟨0,Nat.zero_le _,rfl,fun j hj => absurd hj (by omega),0,rfl⟩
 case round =>
   obtain ⟨k,hk,rfl,hz,q,rfl⟩ := hrel
   have HZ := Lib.hid hz
   clear hz
   by_cases hlt : k < xs.length
   · obtain ⟨b,o,rfl,hcc⟩ := HC.out (by omega)
     have hck := hcc k hlt
     have hx : ok (xs.getD k 0) := HK.out _ (by rw [List.getD_eq_getElem?_getD,List.getElem?_eq_getElem hlt]; exact List.getElem_mem hlt)
     clear hcc
     generalize hxe : xs.getD k 0 = x at *
     have HXE := Lib.hid hxe
     clear hxe
     have HX := Lib.hid hx
     clear hx
     have hcall := HP.out x q HX.out
     cases hq : p x with
     | true =>
       rw [hq] at hcall
       have HQ := Lib.hid hq
       clear hq
       have HCALL := Lib.hid hcall
       clear hcall
       go_wp2_with (go_at_fn g; (refine HCALL.out.mono ?_); rintro e w' ⟨rfl,q',rfl⟩)
       go_ret
       exact ⟨.inr ⟨k,rfl,hlt,by rw [HXE.out]; exact HQ.out,HZ.out⟩,_,rfl⟩
     | false =>
       rw [hq] at hcall
       have HQ := Lib.hid hq
       clear hq
       have HCALL := Lib.hid hcall
       clear hcall
       go_wp2_with (go_at_fn g; (refine HCALL.out.mono ?_); rintro e w' ⟨rfl,q',rfl⟩)
       go_roundw
       case rel => exact ⟨k + 1,by omega,by go_num,all_succ HZ.out (by rw [HXE.out]; exact HQ.out),_,rfl⟩
       case measure => simp [intOf]; omega
   · obtain rfl : k = xs.length := by omega
     go_wp2_with fail
     go_ret
     exact ⟨.inl ⟨rfl,HZ.out⟩,_,rfl⟩
end
theorem onceW_no {x : List Int} {g : Int} (h : ∀ j,j < x.length -> isG g (x.getD j 0) = false) : onceW x g = none := by
 unfold onceW
 have : x.countP (isG g) = 0 := by
   rw [List.countP_eq_zero]
   intro a ha
   obtain ⟨i,hi,rfl⟩ := List.getElem_of_mem ha
   have := h i hi
   rw [List.getD_eq_getElem?_getD,List.getElem?_eq_getElem hi] at this
   have h2 : isG g x[i] = false := this
   simp [h2]
 rw [this]
 rfl
theorem onceW_at {x : List Int} {g : Int} {k : Nat} (hk : k < x.length) (hp : isG g (x.getD k 0) = true) (h : ∀ j,j < k -> isG g (x.getD j 0) = false) : onceW x g = if (x.drop (k + 1)).any (isG g) = true then none else some k := by
 have hpk : isG g x[k] = true := by
   rw [List.getD_eq_getElem?_getD,List.getElem?_eq_getElem hk] at hp
   exact hp
 have hl : ∀ i (hi : i < x.length),i < k -> isG g x[i] = false := fun i hi hik => by
   have := h i hik
   rw [List.getD_eq_getElem?_getD,List.getElem?_eq_getElem hi] at this
   exact this
 have h0 : (x.take k).countP (isG g) = 0 := by
   rw [List.countP_eq_zero]
   intro a ha
   obtain ⟨i,hi,rfl⟩ := List.getElem_of_mem ha
   rw [List.length_take] at hi
   rw [List.getElem_take,hl i (by omega) (by omega)]
   simp
 have hx : x = x.take k ++ (x[k] :: x.drop (k + 1)) := by rw [<- List.drop_eq_getElem_cons hk,List.take_append_drop]
 have hc : x.countP (isG g) = (x.drop (k + 1)).countP (isG g) + 1 := by
   conv => lhs; rw [hx]
   rw [List.countP_append,h0,List.countP_cons,hpk]
   simp
 have hf : x.findIdx (isG g) = k := by
   rw [List.findIdx_eq hk]
   exact ⟨hpk,fun j hj => hl j (by omega) hj⟩
 unfold onceW
 rw [hc,hf]
 by_cases ha : (x.drop (k + 1)).any (isG g) = true
 · rw [if_pos ha,if_neg]
   obtain ⟨a,h1,h2⟩ := List.any_eq_true.1 ha
   have := List.countP_pos_iff.2 ⟨a,h1,h2⟩
   omega
 · rw [if_neg ha,if_pos]
   have : (x.drop (k + 1)).countP (isG g) = 0 := by
     rw [List.countP_eq_zero]
     intro a h1 h2
     exact ha (List.any_eq_true.2 ⟨a,h1,h2⟩)
   omega
theorem is36_ok (W : World) (b : Nat) (g : Int) (hg : -1000000 <= g /\ g <= 1000000) (h : W.cell? ⟨b,0,none⟩ = some (.int .i64 g)) (x : Int) : Calls Tryz.prog 64 #[.int .i64 x, .pointer (some ⟨b,0,none⟩)] W fun e w' => e = .returned (.bool (isG g x)) /\ ∃ q,w' = W.drewN q := by
 have HR : Hid (isG g x = (decide (x = g) || decide (x = -g))) := Lib.hid rfl
 by_cases h1 : x = g
 · have hd : (x == g) = true := by simpa using h1
   have HE : Hid (isG g x = true) := Lib.hid (by rw [HR.out]; simp [h1])
   clear h1
   go_enter Tryz.func64,Tryz.ntmps64
   go_wp2_with fail
   go_ret
   exact ⟨ret_bool HE.out.symm,0,rfl⟩
 · have hd : (x == g) = false := by simpa using h1
   have HE : Hid (isG g x = (x == -g)) := Lib.hid (by rw [HR.out,decide_eq_false h1,Bool.false_or]; rfl)
   have hw : IntKind.i64.wrap (-g) = -g := by simp [IntKind.wrap,IntKind.bits,IntKind.signed]; omega
   clear h1
   go_enter Tryz.func64,Tryz.ntmps64
   go_wp2_with fail
   go_ret
   exact ⟨ret_bool HE.out.symm,0,rfl⟩
def onceI (x : List Int) (g : Int) : Int := match onceW x g with | none => -1 | some k => (k : Int)
set_option maxRecDepth 100000 in
set_option maxHeartbeats 1000000 in
theorem once20_any (w : World) (u : Value) (x : List Int) (g : Int) (hg : -1000000 <= g /\ g <= 1000000) (hu : IntsAt w u x) : Calls Tryz.prog 27 #[u, .int .i64 g] w fun e w' => e = .returned (.int .i64 (onceI x g)) /\ Below w.heap.size w w' := by
 have eg : ∀ args w,(callFunc 64 args).run Tryz.prog w = .ok (.enter 64 args) w := enters_of Tryz.func64 (by kernel_rfl) rfl
 have HU := Lib.hid hu
 obtain ⟨A,c,rfl,h1,h2,h3⟩ := hu.open_
 have H3 := Lib.hid h3
 clear hu h3
 obtain ⟨w1,hw1⟩ : ∃ w1,w1 = w.alloc (.cells #[.int .i64 g] 3) := ⟨_,rfl⟩
 have HB : Hid (Below w.heap.size w w1) := Lib.hid (by rw [hw1]; exact (Below.refl _ _).alloc (Nat.le_refl _) _)
 have hc : w1.cell? ⟨w.heap.size,0,none⟩ = some (.int .i64 g) := by
   rw [hw1,cell_of_row _ _ _ _ _ _ (heap_alloc_new w (.cells #[.int .i64 g] 3))]
   rfl
 have HP : Hid (∀ r,PredW 64 #[.pointer (some ⟨w.heap.size,0,none⟩)] (fun _ => True) (isG g) (w1.drewN r)) := Lib.hid fun r y q _ => (is36_ok ((w1.drewN r).drewN q) w.heap.size g hg hc y).mono fun e w' ⟨a,q',b⟩ => ⟨a,q + q',by rw [b,World.drewN_drewN]⟩
 have HI := Lib.hid (idx37_at 64 #[.pointer (some ⟨w.heap.size,0,none⟩)] (fun _ => True) (isG g) w1 eg (fun y q _ => (is36_ok (w1.drewN q) w.heap.size g hg hc y).mono fun e w' ⟨a,q',b⟩ => ⟨a,q + q',by rw [b,World.drewN_drewN]⟩) (.slice A x.length c) x (HU.out.below HB.out) (fun _ _ => trivial))
 have hx0 : (0 : Int) <= (x.length : Int) := Int.natCast_nonneg _
 have hx1 : (x.length : Int) <= 9223372036854775807 := by omega
 go_enter Tryz.func27,Tryz.ntmps27
 go_wp2_with fail
 rw [<- hw1]
 have HW := Lib.hid hw1
 clear hw1
 refine HI.out.mono ?_
 rintro e w2 ⟨hidx,q,rfl⟩
 rcases hidx with ⟨rfl,hall⟩ | ⟨k,rfl,hk,hhit,hbef⟩
 · have HE : Hid (onceI x g = -1) := Lib.hid (by unfold onceI; rw [onceW_no hall])
   clear hall
   go_wp2_with fail
   go_ret
   exact ⟨ret_int HE.out.symm,below_drewN HB.out _⟩
 · have HO := Lib.hid (onceW_at hk hhit hbef)
   have hk0 : (0 : Int) <= (k : Int) := Int.natCast_nonneg _
   have hkn : ¬ (k : Int) < 0 := by omega
   have hkd : decide ((k : Int) < 0) = false := decide_eq_false hkn
   have hkl : (k : Int) < (x.length : Int) := by omega
   have hk1 : Value.int .i64 ((k : Int) + 1) = Value.int .i64 ((k + 1 : Nat) : Int) := congrArg _ (by omega)
   obtain ⟨b,o,rfl, -⟩ := H3.out (by omega)
   obtain ⟨A',hs,hi⟩ := ints_cut (HU.out.below HB.out) (k := k + 1) (h := x.length) (by omega) (Nat.le_refl _)
   rw [List.take_length] at hi
   have hcc : (c - (k + 1) = 0) ↔ c = k + 1 := by omega
   unfold sliced at hs
   injection hs with hA
   simp only [Nat.mul_one,Option.map_some,Addr.add_mid] at hA
   have HH := Lib.hid (has74_any 64 #[.pointer (some ⟨w.heap.size,0,none⟩)] (fun _ => True) (isG g) (w1.drewN q) eg (HP.out q) (.slice A' (x.length - (k + 1)) (c - (k + 1))) (x.drop (k + 1)) (hi.drewN q) (fun _ _ => trivial))
   clear hi hhit hbef
   cases hany : (x.drop (k + 1)).any (isG g) with
   | true =>
     rw [hany] at HH HO
     have HE : Hid (onceI x g = -1) := Lib.hid (by unfold onceI; rw [HO.out,if_pos rfl])
     clear hany
     go_wp2_with (first
       | (go_at_call 62; (try rw [hA]); (refine HH.out.mono ?_); rintro e w' ⟨rfl,q',rfl⟩))
     go_ret
     exact ⟨ret_int HE.out.symm,by first | exact below_drewN HB.out _ | exact below_drewN (below_drewN HB.out _) _⟩
   | false =>
     rw [hany] at HH HO
     have HE : Hid (onceI x g = k) := Lib.hid (by unfold onceI; rw [HO.out,if_neg (by simp)])
     clear hany
     go_wp2_with (first
       | (go_at_call 62; (try rw [hA]); (refine HH.out.mono ?_); rintro e w' ⟨rfl,q',rfl⟩))
     go_ret
     exact ⟨ret_int HE.out.symm,by first | exact below_drewN HB.out _ | exact below_drewN (below_drewN HB.out _) _⟩
end Go.Proofs
