/- Coset enumeration, plainly: the whole procedure, and the table it ends with; Ways of words; what was scanned is closed; Coset enumeration, plainly: the table of the living, and that it can be made standard; What an enumeration ends with, plainly: relators are closed everywhere, the subgroup's words at 0; the table of the living; Tables that are full, maps between them, and the standard table as a table with other numbers; Universality, plainly: an enumeration's state maps onto whatever satisfies its relators; Coset tables, plainly: what an enumeration's table is; maps between tables; how many cosets lie over one; Representatives lead to their cosets, plainly; Conjugates of subgroups, plainly: the standard table with another base; Free reduction, plainly: words up to cancelling; Plain: clean relators are cyclically reduced, short, and of the presentation's letters. -/
import Derived.Test.YtmmbmhjdnlmedaaGreatSiCS3
import Derived.Test.YtmmbmhjdnlmedaaGreatSiCS1
namespace Go.Proofs.Ct
inductive Reach (g : Nat) (t : Tb) : Nat -> Nat -> Prop where
 | refl (x : Nat) : Reach g t x x
 | step {x y z c : Nat} : Reach g t x y -> c < 2 * g -> Edge t y c z -> Reach g t x z
section
variable {g lim : Nat} {s s0 s1 : St}
theorem Reach.ext (h0 : Rest g s0) (h : Ext g s0 s1) {x : Nat} (hx : x < s0.t.length) : ∀ {y : Nat},Reach g s0.t x y -> y < s0.t.length /\ Reach g s1.t (s1.rp x) (s1.rp y) := by
 intro y hr
 induction hr with
 | refl => exact ⟨hx, .refl _⟩
 | step _ hc he ih =>
   obtain ⟨h1,h2⟩ := ih
   exact ⟨he.lt h0.inv h1 hc, .step h2 hc (h.edge _ _ _ h1 hc he)⟩
theorem LOk.nil : LOk g [] := fun x hx => by cases hx
def Comp (g : Nat) (s : St) (k : Nat) : Prop := ∀ x,x < k -> x < s.t.length -> ∀ c,c < 2 * g -> 0 <= s.t.at (s.rp x) c
theorem Comp.ext (h0 : Rest g s0) (h : Ext g s0 s1) {k : Nat} (hk : k <= s0.t.length) (hc : Comp g s0 k) : Comp g s1 k := fun x hx _ c hcc => by
 have hx0 : x < s0.t.length := by omega
 obtain ⟨y,hy⟩ := Int.eq_ofNat_of_zero_le (hc x hx hx0 c hcc)
 have := h.edge (s0.rp x) c y (h0.inv.rlt hx0) hcc hy
 rw [h.coarse x hx0] at this
 unfold Edge at this
 omega
end
end Go.Proofs.Ct
namespace Go.Proofs.Ct
def Way (t : Tb) : Nat -> W -> Nat -> Prop
 | x, [],y => x = y
 | x,l :: w,y => ∃ z,Edge t x (col l) z /\ Way t z w y
section
variable {t : Tb} {g : Nat} {s s0 s1 : St}
theorem way_app {u v : W} : ∀ {x y : Nat},Way t x (u ++ v) y ↔ ∃ z,Way t x u z /\ Way t z v y := by
 induction u with
 | nil => intro x y; exact ⟨fun h => ⟨x,rfl,h⟩,fun ⟨z,h1,h2⟩ => by have e : x = z := h1; subst e; exact h2⟩
 | cons l u ih =>
   intro x y
   constructor
   · rintro ⟨z,h1,h2⟩
     obtain ⟨z',h3,h4⟩ := ih.1 h2
     exact ⟨z',⟨z,h1,h3⟩,h4⟩
   · rintro ⟨z',⟨z,h1,h3⟩,h4⟩
     exact ⟨z,h1,ih.2 ⟨z',h3,h4⟩⟩
theorem way_one {x y : Nat} {l : Int} : Way t x [l] y ↔ Edge t x (col l) y := ⟨fun ⟨z,h1,h2⟩ => by have e : z = y := h2; subst e; exact h1,fun h => ⟨y,h,rfl⟩⟩
theorem take_snocW {w : W} {k : Nat} (h : k < w.length) : w.take (k + 1) = w.take k ++ [w.getD k 0] := by
 rw [List.take_add_one,List.getD_eq_getElem?_getD,List.getElem?_eq_getElem h]; rfl
theorem way_of_lead {r : Nat} {w : W} : ∀ (k : Nat),k <= w.length -> 0 <= leadTo t r w k -> Way t r (w.take k) (leadTo t r w k).toNat
 | 0,_,_ => by
   rw [List.take_zero]
   show r = ((r : Int)).toNat
   omega
 | k + 1,hk,h => by
   rw [leadTo_succ] at h ⊢
   by_cases h1 : leadTo t r w k < 0
   · rw [if_pos h1] at h; omega
   · rw [if_neg h1] at h ⊢
     have ih := way_of_lead (r := r) (w := w) k (by omega) (by omega)
     rw [take_snocW (by omega)]
     refine way_app.2 ⟨_,ih,way_one.2 ?_⟩
     unfold Edge
     omega
theorem lead_of_way {r : Nat} {w : W} : ∀ (k : Nat),k <= w.length -> ∀ {y : Nat},Way t r (w.take k) y -> leadTo t r w k = (y : Int)
 | 0,_,y,h => by
   rw [List.take_zero] at h
   have e : r = y := h
   subst e; rfl
 | k + 1,hk,y,h => by
   rw [take_snocW (by omega)] at h
   obtain ⟨z,h1,h2⟩ := way_app.1 h
   have ih := lead_of_way k (by omega) h1
   rw [leadTo_succ,ih,if_neg (by omega),Int.toNat_natCast]
   exact way_one.1 h2
theorem leads_iff {r y : Nat} {w : W} : leads t r w = (y : Int) ↔ Way t r w y := by
 constructor
 · intro h
   have := way_of_lead (t := t) (r := r) w.length (Nat.le_refl _) (by show 0 <= leads t r w; omega)
   rw [List.take_length] at this
   have e : (leadTo t r w w.length).toNat = y := by show (leads t r w).toNat = y; omega
   rwa [e] at this
 · intro h
   exact lead_of_way w.length (Nat.le_refl _) (by rw [List.take_length]; exact h)
theorem LOk.cons {l : Int} {w : W} (h : LOk g (l :: w)) : (-(g : Int) <= l /\ l <= g /\ l ≠ 0) /\ LOk g w := ⟨h l (List.mem_cons_self ..),fun x hx => h x (List.mem_cons_of_mem _ hx)⟩
theorem col_ltL {l : Int} (h : -(g : Int) <= l /\ l <= g /\ l ≠ 0) : col l < 2 * g := by unfold col; split <;> omega
theorem inv_cons (l : Int) (w : W) : inv (l :: w) = inv w ++ [-l] := by simp [inv]
theorem inv_inv (w : W) : inv (inv w) = w := by simp [inv,Function.comp_def]
theorem way_ext (h0 : Inv g s0) (h : Ext g s0 s1) : ∀ {w : W} {x y : Nat},LOk g w -> x < s0.t.length -> Way s0.t x w y -> Way s1.t (s1.rp x) w (s1.rp y) := by
 intro w
 induction w with
 | nil => intro x y _ _ h; have e : x = y := h; subst e; exact rfl
 | cons l w ih =>
   rintro x y hw hx ⟨z,h1,h2⟩
   have hz := h1.lt h0 hx (col_ltL hw.cons.1)
   exact ⟨_,h.edge _ _ _ hx (col_ltL hw.cons.1) h1,ih hw.cons.2 hz h2⟩
def Clo (s : St) (r : Nat) (w : W) : Prop := Way s.t (s.rp r) w (s.rp r)
theorem Clo.ext (h0 : Rest g s0) (h : Ext g s0 s1) {r : Nat} (hr : r < s0.t.length) {w : W} (hw : LOk g w) (hc : Clo s0 r w) : Clo s1 r w := by
 have := way_ext h0.inv h hw (h0.inv.rlt hr) hc
 rwa [h.coarse r hr] at this
end
end Go.Proofs.Ct
namespace Go.Proofs.Ct
def livTo (s : St) (n : Nat) : List Nat := (List.range n).filter fun x => decide (s.rp x = x)
def num (s : St) (x : Nat) : Nat := (livTo s x).length
theorem ge_of_all : ∀ (n : Nat) (l : List Int),(∀ r : Nat,r < n -> (r : Int) ∈ l) -> n <= l.length
 | 0,_,_ => Nat.zero_le _
 | n + 1,l,h => by
   have hm := h n (by omega)
   have := ge_of_all n (l.erase n) fun r hr => (List.mem_erase_of_ne (by omega : (r : Int) ≠ (n : Int))).2 (h r (by omega))
   rw [List.length_erase_of_mem hm] at this
   have h1 : 0 < l.length := List.length_pos_of_mem hm
   omega
section
variable {g lim : Nat} {s : St}
end
end Go.Proofs.Ct
namespace Go.Proofs.Ct
section
variable {g lim : Nat} {s s0 s1 : St} {rels sub : List W}
def RC (rels : List W) (s : St) (k : Nat) : Prop := ∀ x,x < k -> x < s.t.length -> ∀ i,i < rels.length -> Clo s x (rels.getD i [])
theorem RC.ext (h0 : Rest g s0) (h : Ext g s0 s1) (hr : ∀ j,j < rels.length -> LOk g (rels.getD j [])) {k : Nat} (hk : k <= s0.t.length) (hc : RC rels s0 k) : RC rels s1 k := fun x hx _ i hi =>
 (hc x hx (by omega) i hi).ext h0 h (by omega) (hr i hi)
end
end Go.Proofs.Ct
namespace Go.Proofs.Ct
structure Full (g : Nat) (t : Tb) : Prop where
 good : TGood g t
 pos : ∀ r,r < t.length -> ∀ c,c < 2 * g -> 0 <= t.at r c
 conn : ∀ x,x < t.length -> Reach g t 0 x
structure Hm (g : Nat) (t u : Tb) (φ : Nat -> Nat) : Prop where
 lt : ∀ x,x < t.length -> φ x < u.length
 edge : ∀ x c y,x < t.length -> c < 2 * g -> Edge t x c y -> Edge u (φ x) c (φ y)
section
variable {g : Nat} {t u : Tb} {φ : Nat -> Nat}
theorem Full.edge (h : Full g t) {x c : Nat} (hx : x < t.length) (hc : c < 2 * g) : ∃ y,y < t.length /\ Edge t x c y := by
 have h1 := h.good.bd x hx c hc
 have h2 := h.pos x hx c hc
 exact ⟨(t.at x c).toNat,by omega,by unfold Edge; omega⟩
theorem TGood.elt (h : TGood g t) {x c y : Nat} (hx : x < t.length) (hc : c < 2 * g) (he : Edge t x c y) : y < t.length := by
 have h1 := h.bd x hx c hc
 unfold Edge at he
 omega
theorem TGood.eback (h : TGood g t) {x c y : Nat} (hx : x < t.length) (hc : c < 2 * g) (he : Edge t x c y) : Edge t y (flp c) x := by
 unfold Edge at he ⊢
 have h1 := h.back x hx c hc (by omega)
 rw [he,Int.toNat_natCast] at h1
 exact h1
theorem Hm.way (h : Hm g t u φ) (ht : TGood g t) : ∀ {w : W} {x y : Nat},LOk g w -> x < t.length -> Way t x w y -> Way u (φ x) w (φ y) := by
 intro w
 induction w with
 | nil => intro x y _ _ e; have e : x = y := e; rw [e]; exact rfl
 | cons l w ih =>
   rintro x y hw hx ⟨z,h1,h2⟩
   exact ⟨_,h.edge _ _ _ hx (col_ltL hw.cons.1) h1,ih hw.cons.2 (ht.elt hx (col_ltL hw.cons.1) h1) h2⟩
theorem row_ext {a b : List Int} {n : Nat} (ha : a.length = n) (hb : b.length = n) (h : ∀ c,c < n -> a.getD c 0 = b.getD c 0) : a = b := by
 apply List.ext_getElem
 · omega
 · intro i h1 h2
   have := h i (by omega)
   simpa [List.getD_eq_getElem?_getD,h1,h2] using this
def mp (φ : Nat -> Nat) (x : Int) : Int := ((φ x.toNat : Nat) : Int)
theorem Hm.row (h : Hm g t u φ) (ht : TGood g t) (hu : TGood g u) (hp : ∀ r,r < t.length -> ∀ c,c < 2 * g -> 0 <= t.at r c) {r : Nat} (hr : r < t.length) : u.row (φ r) = (t.row r).map (mp φ) := by
 refine row_ext (n := 2 * g) (hu.len _ (h.lt r hr)) (by rw [List.length_map]; exact ht.len r hr) fun c hc => ?_
 have h1 := hp r hr c hc
 have h2 := h.edge r c (t.at r c).toNat hr hc (by unfold Edge; omega)
 have h3 : (u.row (φ r)).getD c 0 = ((φ (t.at r c).toNat : Nat) : Int) := h2
 have h4 : c < (t.row r).length := by rw [ht.len r hr]; exact hc
 have h5 : ∀ (l : List Int) (f : Int -> Int),c < l.length -> f (l.getD c 0) = (l.map f).getD c 0 := fun l f hl => by
   simp [List.getD_eq_getElem?_getD,hl]
 rw [h3, <- h5 (t.row r) (mp φ) h4]
 rfl
structure Num (t : Tb) (o : List Int) : Prop where
 len : o.length = t.length
 cos : Cos t.length o
theorem idxOf_get {o : List Int} (hn : o.Nodup) {j : Nat} (hj : j < o.length) : o.idxOf (o.getD j 0) = j := by
 rw [List.getD_eq_getElem?_getD,List.getElem?_eq_getElem hj]
 exact hn.idxOf_getElem j hj
theorem Num.at_ {o : List Int} (h : Num t o) {j : Nat} (hj : j < t.length) : ∃ x,x < t.length /\ o.getD j 0 = (x : Int) /\ o.idxOf (x : Int) = j := by
 have h1 := h.cos.get (k := j) (by rw [h.len]; exact hj)
 refine ⟨(o.getD j 0).toNat,by omega,by omega, ?_⟩
 rw [show (((o.getD j 0).toNat : Nat) : Int) = o.getD j 0 by omega]
 exact idxOf_get h.cos.nd (by rw [h.len]; exact hj)
theorem Num.of {o : List Int} (h : Num t o) {x : Nat} (hx : x < t.length) : o.idxOf (x : Int) < t.length /\ o.getD (o.idxOf (x : Int)) 0 = (x : Int) := by
 have hm := mem_of_full h.cos h.len x hx
 have h1 := List.idxOf_lt_length_of_mem hm
 refine ⟨by rw [<- h.len]; exact h1, ?_⟩
 rw [List.getD_eq_getElem?_getD,List.getElem?_eq_getElem h1]
 simp
theorem Full.num (h : Full g t) {b : Nat} (hb : b < t.length) (hr : ∀ x,x < t.length -> Reach g t b x) : Num t (ord t (b : Int)) := by
 have hC : Cos t.length (ord t (b : Int)) := Cos.ordTo h.good (by omega) (by omega) t.length
 refine ⟨?_,hC⟩
 refine Nat.le_antisymm (length_le_of_nodup hC) (ge_of_all _ _ fun r hr' => ?_)
 have hin : ∀ x,Reach g t b x -> x < t.length /\ (x : Int) ∈ ord t (b : Int) := fun x hx => by
   induction hx with
   | refl => exact ⟨hb,(ordTo_mono t (b : Int) (Nat.zero_le t.length)).subset (by simp [ordTo])⟩
   | @step y z c _ hc he ih =>
     obtain ⟨h1,h2⟩ := ih
     exact ⟨h.good.elt h1 hc he,by
       obtain ⟨j,hj,he'⟩ := List.mem_iff_getElem.1 h2
       have hle := length_le_of_nodup hC
       have hjl : j < t.length := Nat.lt_of_lt_of_le hj hle
       have hlt : j < (ordTo t (b : Int) j).length := by
         rcases Nat.lt_or_ge j (ordTo t (b : Int) j).length with h3 | h3
         · exact h3
         · have := ordTo_stable t (b : Int) h3 (by omega : j <= t.length)
           unfold ord at hj
           rw [this] at hj
           omega
       have hget : (ordTo t (b : Int) j).getD j 0 = (y : Int) := by
         rw [<- pre_get (ordTo_mono t (b : Int) (by omega : j <= t.length)) hlt]
         unfold ord at he' hj
         rw [List.getD_eq_getElem?_getD,List.getElem?_eq_getElem hj]
         simpa using he'
       have hstep : ordTo t (b : Int) (j + 1) = visitTo (t.row y) (t.row y).length (ordTo t (b : Int) j) := by
         rw [ordTo,if_pos hlt,hget,Int.toNat_natCast]
       have hp := h.pos y h1 c hc
       have hmem : t.at y c ∈ ordTo t (b : Int) (j + 1) := by
         rw [hstep]
         exact mem_visitTo (by rw [h.good.len y h1]; exact hc) hp _
       have := (ordTo_mono t (b : Int) (by omega : j + 1 <= t.length)).subset hmem
       rwa [show t.at y c = (z : Int) from he] at this⟩
 exact (hin r (hr r hr')).2
theorem Reach.hm (h : Hm g t u φ) (ht : TGood g t) {x y : Nat} (hx : x < t.length) (hr : Reach g t x y) : y < t.length /\ Reach g u (φ x) (φ y) := by
 induction hr with
 | refl => exact ⟨hx, .refl _⟩
 | step _ hc he ih =>
   obtain ⟨h1,h2⟩ := ih
   exact ⟨ht.elt h1 hc he, .step h2 hc (h.edge _ _ _ h1 hc he)⟩
theorem Reach.trans {x y z : Nat} (h1 : Reach g t x y) (h2 : Reach g t y z) : Reach g t x z := by
 induction h2 with
 | refl => exact h1
 | step _ hc he ih => exact .step ih hc he
theorem Reach.symm (ht : TGood g t) {x y : Nat} (hx : x < t.length) (h : Reach g t x y) : y < t.length /\ Reach g t y x := by
 induction h with
 | refl => exact ⟨hx, .refl _⟩
 | step _ hc he ih =>
   obtain ⟨h1,h2⟩ := ih
   exact ⟨ht.elt h1 hc he,(Reach.step (.refl _) (flp_lt2 hc) (ht.eback h1 hc he)).trans h2⟩
end
end Go.Proofs.Ct
namespace Go.Proofs.Ct
def actW {α : Type} (act : α -> Nat -> α) : α -> W -> α
 | p, [] => p
 | p,l :: w => actW act (act p (col l)) w
structure Mdl (g : Nat) (rels : List W) {α : Type} (D : α -> Prop) (act : α -> Nat -> α) : Prop where
 cl : ∀ p c,D p -> c < 2 * g -> D (act p c)
 inv : ∀ p c,D p -> c < 2 * g -> act (act p c) (flp c) = p
 rel : ∀ p i,D p -> i < rels.length -> actW act p (rels.getD i []) = p
structure Mp (g : Nat) {α : Type} (D : α -> Prop) (act : α -> Nat -> α) (s : St) (f : Nat -> α) : Prop where
 dom : ∀ x,x < s.t.length -> D (f x)
 rp : ∀ x,x < s.t.length -> f (s.rp x) = f x
 edge : ∀ x c y,x < s.t.length -> c < 2 * g -> Edge s.t x c y -> act (f x) c = f y
section
variable {α : Type} {g lim : Nat} {rels sub : List W} {D : α -> Prop} {act : α -> Nat -> α} {s : St} {f : Nat -> α}
theorem actW_app {u v : W} : ∀ {p : α},actW act p (u ++ v) = actW act (actW act p u) v := by
 induction u with
 | nil => intro p; rfl
 | cons l u ih => intro p; exact ih
theorem Mdl.clW (h : Mdl g rels D act) : ∀ {w : W} {p : α},LOk g w -> D p -> D (actW act p w) := by
 intro w
 induction w with
 | nil => intro p _ hp; exact hp
 | cons l w ih => intro p hw hp; exact ih hw.cons.2 (h.cl _ _ hp (col_ltL hw.cons.1))
theorem Mdl.invW (h : Mdl g rels D act) : ∀ {w : W} {p : α},LOk g w -> D p -> actW act (actW act p w) (Ct.inv w) = p := by
 intro w
 induction w with
 | nil => intro p _ _; rfl
 | cons l w ih =>
   intro p hw hp
   have hc := col_ltL hw.cons.1
   rw [inv_cons,actW_app]
   show actW act (actW act (actW act (act p (col l)) w) (Ct.inv w)) [-l] = p
   rw [ih hw.cons.2 (h.cl _ _ hp hc)]
   show act (act p (col l)) (col (-l)) = p
   rw [col_inv hw.cons.1.2.2]
   exact h.inv p _ hp hc
theorem Mp.merge (h : Mp g D act s f) (hI : Inv g s) {a b : Nat} (ha : a < s.t.length) (hb : b < s.t.length) (e : f a = f b) : Mp g D act (mergeS s a b) f := by
 have ht := t_merge s a b
 refine ⟨by rw [ht]; exact h.dom,fun x hx => ?_,by rw [ht]; exact h.edge⟩
 rw [ht] at hx
 rw [rp_merge hI ha hb hx]
 have h1 := h.rp x hx
 have h2 := h.rp a ha
 have h3 := h.rp b hb
 split
 · rename_i e2
   rw [e2] at h1
   rcases Nat.le_total (s.rp a) (s.rp b) with h' | h'
   · rw [Nat.min_eq_left h']
     rw [Nat.max_eq_right h'] at h1
     rw [h2,e, <- h3,h1]
   · rw [Nat.min_eq_right h']
     rw [Nat.max_eq_left h'] at h1
     rw [h3, <- e, <- h2,h1]
 · exact h1
theorem Mp.step (_hM : Mdl g rels D act) (h : Mp g D act s f) (hI : Inv g s) {e c : Nat} (he : e < s.t.length) (hc : c < 2 * g) : Mp g D act (stepS e c s) f := by
 unfold stepS
 by_cases hd : s.t.at e c < 0
 · rw [if_pos hd]; exact h
 · rw [if_neg hd]
   have hd' : 0 <= s.t.at e c := by omega
   obtain ⟨d,hdd⟩ := Int.eq_ofNat_of_zero_le hd'
   have hE : Edge s.t e c d := hdd
   have hdn := hE.lt hI he hc
   have hcut := hI.cut he hc hd'
   have hat := at_cut hI he hc hd'
   have hlen := length_cut s.t e c
   have hun := hI.rlt he
   have hvn := hI.rlt hdn
   have hf := flp_lt2 hc
   rw [hdd,Int.toNat_natCast] at hat ⊢
   have hM1 : Mp g D act { s with t := cutT s.t e c } f := ⟨fun x hx => h.dom x (by simpa [hlen] using hx),fun x hx => h.rp x (by simpa [hlen] using hx),fun x k y hx hk hy => by
     simp only [hlen] at hx
     unfold Edge at hy
     simp only at hy
     rw [hat] at hy
     split at hy
     · omega
     · exact h.edge x k y hx hk hy⟩
   have hfe := h.edge e c d he hc hE
   have hfb := h.edge d (flp c) e hdn hf (hE.back hI he hc)
   have hre := h.rp e he
   have hrd := h.rp d hdn
   generalize hs1 : ({ s with t := cutT s.t e c } : St) = s1 at *
   have ht1 : s1.t = cutT s.t e c := by rw [<- hs1]
   have hn1 : s1.t.length = s.t.length := by rw [ht1,hlen]
   rw [<- ht1] at hat ⊢
   by_cases h1 : 0 <= s1.t.at (s.rp e) c
   · rw [if_pos h1]
     obtain ⟨w,hw⟩ := Int.eq_ofNat_of_zero_le h1
     have hE1 : Edge s1.t (s.rp e) c w := hw
     have hwn : w < s1.t.length := hE1.lt hcut (by rw [hn1]; exact hun) hc
     have h2 := hM1.edge _ c w (by rw [hn1]; exact hun) hc hE1
     rw [hw,Int.toNat_natCast]
     exact hM1.merge hcut hwn (by rw [hn1]; exact hvn) (by rw [<- h2,hre,hfe,hrd])
   · rw [if_neg h1]
     by_cases h2 : 0 <= s1.t.at (s.rp d) (flp c)
     · rw [if_pos h2]
       obtain ⟨w,hw⟩ := Int.eq_ofNat_of_zero_le h2
       have hE1 : Edge s1.t (s.rp d) (flp c) w := hw
       have hwn : w < s1.t.length := hE1.lt hcut (by rw [hn1]; exact hvn) hf
       have h3 := hM1.edge _ (flp c) w (by rw [hn1]; exact hvn) hf hE1
       rw [hw,Int.toNat_natCast]
       exact hM1.merge hcut hwn (by rw [hn1]; exact hun) (by rw [<- h3,hrd,hfb,hre])
     · rw [if_neg h2]
       have haj := at_join hcut (u := s.rp e) (v := s.rp d) (c := c) (by omega) (by omega) hc
       have hlj := length_join s1.t (s.rp e) c (s.rp d)
       refine ⟨fun x hx => h.dom x (by simp only [hlj] at hx; omega),fun x hx => h.rp x (by simp only [hlj] at hx; omega),fun x k y hx hk hy => ?_⟩
       simp only [hlj] at hx
       unfold Edge at hy
       simp only at hy
       rw [haj] at hy
       split at hy
       · rename_i e1
         have : y = s.rp e := by omega
         rw [this,e1.1,e1.2,hrd,hre]
         exact hfb
       · split at hy
         · rename_i e1
           have : y = s.rp d := by omega
           rw [this,e1.1,e1.2,hrd,hre]
           exact hfe
         · exact hM1.edge x k y hx hk hy
theorem Mp.way (h : Mp g D act s f) (hI : Inv g s) : ∀ {w : W} {x y : Nat},LOk g w -> x < s.t.length -> Way s.t x w y -> actW act (f x) w = f y := by
 intro w
 induction w with
 | nil => intro x y _ _ e; have e : x = y := e; rw [e]; rfl
 | cons l w ih =>
   rintro x y hw hx ⟨z,h1,h2⟩
   have hz := h1.lt hI hx (col_ltL hw.cons.1)
   show actW act (act (f x) (col l)) w = f y
   rw [h.edge _ _ _ hx (col_ltL hw.cons.1) h1]
   exact ih hw.cons.2 hz h2
end
end Go.Proofs.Ct
namespace Go.Proofs.Ct
structure Coset (g : Nat) (rels sub : List W) (t : Tb) : Prop where
 full : Full g t
 std : std t 0 = some t
 rel : ∀ i,i < t.length -> ∀ j,j < rels.length -> Way t i (rels.getD j []) i
 subc : ∀ j,j < sub.length -> Way t 0 (sub.getD j []) 0
 univ : ∀ {α : Type} {D : α -> Prop} {act : α -> Nat -> α} {p0 : α},Mdl g rels D act -> D p0 -> (∀ j,j < sub.length -> actW act p0 (sub.getD j []) = p0) -> ∃ φ : Nat -> α,φ 0 = p0 /\ (∀ x,x < t.length -> D (φ x)) /\ ∀ x c y,x < t.length -> c < 2 * g -> Edge t x c y -> act (φ x) c = φ y
section
variable {g lim : Nat} {rels sub : List W} {t u : Tb} {φ ψ : Nat -> Nat}
def nx (t : Tb) (x c : Nat) : Nat := (t.at x c).toNat
theorem Full.nx (h : Full g t) {x c : Nat} (hx : x < t.length) (hc : c < 2 * g) : Ct.nx t x c < t.length /\ Edge t x c (Ct.nx t x c) := by
 obtain ⟨y,hy,he⟩ := h.edge hx hc
 have : Ct.nx t x c = y := by unfold Ct.nx; unfold Edge at he; omega
 rw [this]; exact ⟨hy,he⟩
theorem Full.way (h : Full g t) : ∀ {w : W} {x : Nat},LOk g w -> x < t.length -> actW (Ct.nx t) x w < t.length /\ Way t x w (actW (Ct.nx t) x w) := by
 intro w
 induction w with
 | nil => intro x _ hx; exact ⟨hx,rfl⟩
 | cons l w ih =>
   intro x hw hx
   obtain ⟨h1,h2⟩ := h.nx hx (col_ltL hw.cons.1)
   obtain ⟨h3,h4⟩ := ih hw.cons.2 h1
   exact ⟨h3,_,h2,h4⟩
theorem way_fun : ∀ {w : W} {x y z : Nat},Way t x w y -> Way t x w z -> y = z := by
 intro w
 induction w with
 | nil => intro x y z h1 h2; have e1 : x = y := h1; have e2 : x = z := h2; omega
 | cons l w ih =>
   rintro x y z ⟨a,h1,h2⟩ ⟨b,h3,h4⟩
   have : a = b := by unfold Edge at h1 h3; omega
   rw [this] at h2
   exact ih h2 h4
theorem Full.actW_of (h : Full g t) {w : W} {x y : Nat} (hw : LOk g w) (hx : x < t.length) (h1 : Way t x w y) : actW (Ct.nx t) x w = y := way_fun (h.way hw hx).2 h1
theorem Full.mdl (h : Full g t) (hr : ∀ j,j < rels.length -> LOk g (rels.getD j [])) (hc : ∀ i,i < t.length -> ∀ j,j < rels.length -> Way t i (rels.getD j []) i) : Mdl g rels (fun x => x < t.length) (Ct.nx t) :=
 ⟨fun _ _ hp hcc => (h.nx hp hcc).1,fun p c hp hcc => by
   obtain ⟨h1,h2⟩ := h.nx hp hcc
   have h3 := h.good.eback hp hcc h2
   obtain ⟨h4,h5⟩ := h.nx h1 (flp_lt2 hcc)
   unfold Edge at h3 h5
   omega,fun p i hp hi => h.actW_of (hr i hi) hp (hc p hp i hi)⟩
theorem Hm.unique (ht : Full g t) (h1 : Hm g t u φ) (h2 : Hm g t u ψ) (h0 : φ 0 = ψ 0) : ∀ x,x < t.length -> φ x = ψ x := fun x hx => by
 have key : ∀ y,Reach g t 0 y -> y < t.length /\ φ y = ψ y := fun y hy => by
   induction hy with
   | refl => exact ⟨ht.good.n1,h0⟩
   | @step y z c _ hc he ih =>
     obtain ⟨i1,i2⟩ := ih
     refine ⟨ht.good.elt i1 hc he, ?_⟩
     have a := h1.edge _ _ _ i1 hc he
     have b := h2.edge _ _ _ i1 hc he
     rw [i2] at a
     unfold Edge at a b
     omega
 exact (key x (ht.conn x hx)).2
theorem Hm.comp {v : Tb} (h1 : Hm g t u φ) (h2 : Hm g u v ψ) : Hm g t v (fun x => ψ (φ x)) := ⟨fun x hx => h2.lt _ (h1.lt x hx),fun x c y hx hc he => h2.edge _ _ _ (h1.lt x hx) hc (h1.edge x c y hx hc he)⟩
theorem Hm.id : Hm g t t (fun x => x) := ⟨fun _ h => h,fun _ _ _ _ _ h => h⟩
theorem Hm.inj (ht : Full g t) (h1 : Hm g t u φ) (h2 : Hm g u t ψ) (h0 : ψ (φ 0) = 0) : ∀ x y,x < t.length -> y < t.length -> φ x = φ y -> x = y := fun x y hx hy e => by
 have a : ψ (φ x) = x := Hm.unique ht (h1.comp h2) Hm.id h0 x hx
 have b : ψ (φ y) = y := Hm.unique ht (h1.comp h2) Hm.id h0 y hy
 rw [<- a, <- b,e]
theorem len_le_of_sub : ∀ {a b : List Nat},a.Nodup -> (∀ x ∈ a,x ∈ b) -> a.length <= b.length
 | [],_,_,_ => Nat.zero_le _
 | x :: a,b,hn,h => by
   obtain ⟨h1,h2⟩ := List.nodup_cons.1 hn
   have hx := h x (List.mem_cons_self ..)
   have := len_le_of_sub (a := a) (b := b.erase x) h2 fun y hy => by
     have hne : y ≠ x := fun e => h1 (e ▸ hy)
     exact (List.mem_erase_of_ne hne).2 (h y (List.mem_cons_of_mem _ hy))
   rw [List.length_erase_of_mem hx] at this
   have := List.length_pos_of_mem hx
   simp only [List.length_cons]
   omega
theorem nodup_map_on {f : Nat -> Nat} : ∀ {l : List Nat},(∀ x ∈ l, ∀ y ∈ l,f x = f y -> x = y) -> l.Nodup -> (l.map f).Nodup
 | [],_,_ => List.nodup_nil
 | x :: l,h,hn => by
   obtain ⟨h1,h2⟩ := List.nodup_cons.1 hn
   rw [List.map_cons]
   refine List.nodup_cons.2 ⟨fun hm => ?_,nodup_map_on (fun a ha b hb => h a (List.mem_cons_of_mem _ ha) b (List.mem_cons_of_mem _ hb)) h2⟩
   obtain ⟨y,hy,he⟩ := List.mem_map.1 hm
   have := h y (List.mem_cons_of_mem _ hy) x (List.mem_cons_self ..) he
   exact h1 (this ▸ hy)
def fib (φ : Nat -> Nat) (n a : Nat) : Nat := (List.range n).countP fun x => decide (φ x = a)
theorem fib_le (ht : Full g t) (h : Hm g t u φ) {a b c : Nat} (hc : c < 2 * g) (he : Edge u a c b) : fib φ t.length a <= fib φ t.length b := by
 unfold fib
 rw [List.countP_eq_length_filter,List.countP_eq_length_filter]
 have hmem : ∀ x k,x ∈ (List.range t.length).filter (fun x => decide (φ x = k)) ↔ x < t.length /\ φ x = k := fun x k => by simp
 have h1 : (((List.range t.length).filter fun x => decide (φ x = a)).map fun x => Ct.nx t x c).length <= ((List.range t.length).filter fun x => decide (φ x = b)).length := by
   refine len_le_of_sub (nodup_map_on (fun x hx y hy e => ?_) (List.Pairwise.filter _ List.nodup_range)) fun z hz => ?_
   · obtain ⟨x1, -⟩ := (hmem _ _).1 hx
     obtain ⟨y1, -⟩ := (hmem _ _).1 hy
     obtain ⟨k1,k2⟩ := ht.nx x1 hc
     obtain ⟨k3,k4⟩ := ht.nx y1 hc
     have m1 := ht.good.eback x1 hc k2
     have m2 := ht.good.eback y1 hc k4
     rw [e] at m1
     unfold Edge at m1 m2
     omega
   · obtain ⟨x,hx,rfl⟩ := List.mem_map.1 hz
     obtain ⟨x1,x2⟩ := (hmem _ _).1 hx
     obtain ⟨k1,k2⟩ := ht.nx x1 hc
     refine (hmem _ _).2 ⟨k1, ?_⟩
     have := h.edge _ _ _ x1 hc k2
     rw [x2] at this
     unfold Edge at this he
     omega
 rwa [List.length_map] at h1
theorem countP_lt_succ (φ : Nat -> Nat) (m : Nat) : ∀ l : List Nat,l.countP (fun x => decide (φ x < m + 1)) = l.countP (fun x => decide (φ x < m)) + l.countP (fun x => decide (φ x = m))
 | [] => rfl
 | x :: l => by
   have ih := countP_lt_succ φ m l
   rw [List.countP_cons,List.countP_cons,List.countP_cons,ih]
   by_cases h1 : φ x < m
   · simp [h1,show φ x < m + 1 by omega,show φ x ≠ m by omega]; omega
   · by_cases h2 : φ x = m
     · simp [h2]; omega
     · simp [h1,h2,show ¬ φ x < m + 1 by omega]
theorem Hm.dvd (ht : Full g t) (hu : Full g u) (h : Hm g t u φ) : ∃ k,t.length = u.length * k := by
 have heq : ∀ a,a < u.length -> fib φ t.length a = fib φ t.length 0 := fun a ha => by
   have key : ∀ y,Reach g u 0 y -> y < u.length /\ fib φ t.length y = fib φ t.length 0 := fun y hy => by
     induction hy with
     | refl => exact ⟨hu.good.n1,rfl⟩
     | @step y z c _ hc he ih =>
       obtain ⟨i1,i2⟩ := ih
       refine ⟨hu.good.elt i1 hc he, ?_⟩
       have a := fib_le ht h hc he
       have b := fib_le ht h (flp_lt2 hc) (hu.good.eback i1 hc he)
       omega
   exact (key a (hu.conn a ha)).2
 have hsum : ∀ m,m <= u.length -> (List.range t.length).countP (fun x => decide (φ x < m)) = m * fib φ t.length 0 := fun m => by
   induction m with
   | zero => intro _; simp
   | succ m ih =>
     intro hm
     rw [countP_lt_succ,ih (by omega),Nat.add_mul,Nat.one_mul, <- heq m (by omega)]
     rfl
 refine ⟨fib φ t.length 0, ?_⟩
 rw [<- hsum u.length (Nat.le_refl _)]
 have : (List.range t.length).countP (fun x => decide (φ x < u.length)) = (List.range t.length).length := by
   rw [List.countP_eq_length]
   intro x hx
   have := h.lt x (by simpa using hx)
   simpa using this
 rw [this,List.length_range]
theorem Coset.holds (h : Coset g rels sub t) : holdsB rels sub t = true := by
 unfold holdsB
 rw [Bool.and_eq_true,Bool.and_eq_true]
 refine ⟨⟨?_, ?_⟩, ?_⟩
 · unfold complete
   rw [Bool.not_eq_true',List.any_eq_false]
   intro row hrow hc
   obtain ⟨r,hr,rfl⟩ := List.mem_iff_getElem.1 hrow
   have h1 : (-1 : Int) ∈ t[r] := by simpa using hc
   obtain ⟨c,hc,he⟩ := List.mem_iff_getElem.1 h1
   have e : t.row r = t[r] := by unfold Tb.row; rw [List.getD_eq_getElem?_getD,List.getElem?_eq_getElem hr]; rfl
   have h2 := h.full.pos r hr c (by rw [<- h.full.good.len r hr,e]; exact hc)
   unfold Tb.at at h2
   rw [e,List.getD_eq_getElem?_getD,List.getElem?_eq_getElem hc,he] at h2
   simp at h2
 · unfold staysB
   rw [List.all_eq_true]
   intro w hw
   obtain ⟨j,hj,rfl⟩ := List.mem_iff_getElem.1 hw
   have h1 := h.subc j hj
   rw [List.getD_eq_getElem?_getD,List.getElem?_eq_getElem hj] at h1
   have := leads_iff.2 h1
   simpa using this
 · rw [List.all_eq_true]
   intro r hr
   have hr' : r < t.length := by simpa using hr
   unfold staysB
   rw [List.all_eq_true]
   intro w hw
   obtain ⟨j,hj,rfl⟩ := List.mem_iff_getElem.1 hw
   have h1 := h.rel r hr' j hj
   rw [List.getD_eq_getElem?_getD,List.getElem?_eq_getElem hj] at h1
   have := leads_iff.2 h1
   simpa using this
end
end Go.Proofs.Ct
namespace Go.Proofs.Ct
theorem col_letter (c : Nat) : col (letter c) = c := by
 unfold col letter
 split <;> split <;> omega
def RW (t : Tb) (out : List W) : Prop := ∀ j,j < out.length -> Way t 0 (out.getD j []) j
section
variable {g : Nat} {t : Tb}
theorem repCol_len (r c : Nat) (out : List W) : out.length <= (repCol t r c out).length := by
 unfold repCol
 split
 · simp
 · exact Nat.le_refl _
theorem RW.col {out : List W} (h : RW t out) {r c : Nat} (hr : r < out.length) : RW t (repCol t r c out) := by
 unfold repCol
 split
 · rename_i he
   intro j hj
   rcases Nat.lt_or_ge j out.length with h1 | h1
   · have : (out ++ [out.getD r [] ++ [letter c]]).getD j [] = out.getD j [] := by simp [List.getD_eq_getElem?_getD,List.getElem?_append_left h1]
     rw [this]
     exact h j h1
   · obtain rfl : j = out.length := by simp at hj; omega
     have : (out ++ [out.getD r [] ++ [letter c]]).getD out.length [] = out.getD r [] ++ [letter c] := by simp [List.getD_eq_getElem?_getD]
     rw [this]
     refine way_app.2 ⟨r,h r hr,way_one.2 ?_⟩
     unfold Edge
     rw [col_letter]
     exact he
 · exact h
theorem RW.row {out : List W} (h : RW t out) {r : Nat} (hr : r < out.length) : RW t (repRow t r out) :=
 (foldTo_inv (p := fun _ out => RW t out /\ r < out.length) ⟨h,hr⟩ _ fun c x _ ⟨h1,h2⟩ => ⟨h1.col h2,Nat.lt_of_lt_of_le h2 (repCol_len r c x)⟩).1
end
end Go.Proofs.Ct
namespace Go.Proofs.Ct
section
variable {g : Nat} {rels sub : List W} {t u : Tb}
theorem LOk.app {a b : W} (ha : LOk g a) (hb : LOk g b) : LOk g (a ++ b) := fun x hx => (List.mem_append.1 hx).elim (ha x) (hb x)
end
end Go.Proofs.Ct
namespace Go.Proofs.Ct
def pushL (st w : W) : W := w.foldl push st
theorem pushL_append (st a b : W) : pushL st (a ++ b) = pushL (pushL st a) b := List.foldl_append ..
theorem pushL_one (st : W) (x : Int) : pushL st [x] = push st x := rfl
theorem take_snoc0 {w : W} {k : Nat} (h : k < w.length) : w.take (k + 1) = w.take k ++ [w.getD k 0] := by
 rw [List.take_succ_eq_append_getElem h,List.getD_eq_getElem?_getD,List.getElem?_eq_getElem h]; rfl
theorem redTo_fold (w : W) : ∀ k,k <= w.length -> redTo w k = pushL [] (w.take k)
 | 0,_ => rfl
 | k + 1,h => by
   show push (redTo w k) (w.getD k 0) = _
   rw [redTo_fold w k (by omega),take_snoc0 (by omega),pushL_append]
   rfl
theorem red_fold (w : W) : red w = pushL [] w := by
 unfold red
 rw [redTo_fold w _ (Nat.le_refl _),List.take_length]
theorem push_nil (x : Int) : push [] x = [x] := rfl
theorem push_snoc (st : W) (y x : Int) : push (st ++ [y]) x = if opp y x = true then st else st ++ [y] ++ [x] := by
 unfold push
 have h1 : (st ++ [y]).length - 1 = st.length := by simp
 rw [h1]
 have h2 : (st ++ [y]).getD st.length 0 = y := by simp [List.getD_eq_getElem?_getD]
 rw [h2]
 have h3 : (st ++ [y]).take st.length = st := by simp
 rw [h3]
 by_cases h : opp y x = true
 · rw [if_pos h,if_pos (by simp [h])]
 · rw [if_neg h,if_neg (by simp [h])]
theorem opp_iff {x y : Int} : opp x y = true ↔ x ≠ 0 /\ y = -x := by
 unfold opp
 simp
def Rd (st : W) : Prop := ∀ a x y b,st = a ++ [x] ++ [y] ++ b -> opp x y = false
theorem Rd.nil : Rd [] := fun a x y b h => by simp at h
theorem Rd.one (x : Int) : Rd [x] := fun a p q b h => by
 have := congrArg List.length h
 simp at this
 omega
theorem Rd.init {st : W} {y : Int} (h : Rd (st ++ [y])) : Rd st := fun a p q b e => h a p q (b ++ [y]) (by rw [e]; simp)
theorem Rd.last {st : W} {x y : Int} (h : Rd (st ++ [x] ++ [y])) : opp x y = false := h st x y [] (by simp)
theorem Rd.snoc {st : W} {x y : Int} (h : Rd (st ++ [x])) (hn : opp x y = false) : Rd (st ++ [x] ++ [y]) := fun a p q b e => by
 rcases List.eq_nil_or_concat b with rfl | ⟨b',z,rfl⟩
 · rw [List.append_nil] at e
   have h1 := List.append_inj' e rfl
   have h2 := List.append_inj' h1.1 rfl
   have e1 := List.cons.inj h1.2
   have e2 := List.cons.inj h2.2
   rw [<- e1.1, <- e2.1]
   exact hn
 · rw [List.concat_eq_append, <- List.append_assoc] at e
   have h1 := List.append_inj' e rfl
   exact h a p q b' h1.1
theorem Rd.push {st : W} (h : Rd st) (x : Int) : Rd (push st x) := by
 rcases List.eq_nil_or_concat st with rfl | ⟨s,y,rfl⟩
 · exact Rd.one x
 · rw [List.concat_eq_append] at h ⊢
   rw [push_snoc]
   split
   · exact h.init
   · rename_i hn
     exact h.snoc (by simpa using hn)
theorem Rd.pushL {st : W} (h : Rd st) : ∀ (w : W),Rd (pushL st w) := fun w => by
 induction w generalizing st with
 | nil => exact h
 | cons x w ih => exact ih (h.push x)
theorem rd_red (w : W) : Rd (red w) := by rw [red_fold]; exact Rd.nil.pushL w
theorem push_back {st : W} (h : Rd st) {x : Int} (hx : x ≠ 0) : push (push st x) (-x) = st := by
 rcases List.eq_nil_or_concat st with rfl | ⟨s,y,rfl⟩
 · rw [push_nil, <- List.nil_append [x],push_snoc,if_pos (opp_iff.2 ⟨hx,rfl⟩)]
 · rw [List.concat_eq_append] at h ⊢
   rw [push_snoc]
   by_cases ho : opp y x = true
   · rw [if_pos ho]
     obtain ⟨hy,rfl⟩ := opp_iff.1 ho
     rw [Int.neg_neg]
     rcases List.eq_nil_or_concat s with rfl | ⟨s',z,rfl⟩
     · rfl
     · rw [List.concat_eq_append] at h ⊢
       rw [push_snoc,if_neg (by rw [h.last]; simp)]
   · rw [if_neg ho,push_snoc,if_pos (opp_iff.2 ⟨hx,rfl⟩)]
def Nz (w : W) : Prop := ∀ x ∈ w,x ≠ 0
theorem Nz.app {a b : W} (ha : Nz a) (hb : Nz b) : Nz (a ++ b) := fun x hx => (List.mem_append.1 hx).elim (ha x) (hb x)
theorem Nz.left {a b : W} (h : Nz (a ++ b)) : Nz a := fun x hx => h x (List.mem_append.2 (.inl hx))
theorem Nz.red {a : W} (h : Nz a) : Nz (red a) := fun x hx => h x (red_mem hx)
theorem Nz.inv {a : W} (h : Nz a) : Nz (inv a) := fun x hx => by
 have := h _ (mem_inv hx)
 omega
theorem Nz.nil : Nz [] := fun x hx => by cases hx
theorem Nz.one {x : Int} (h : x ≠ 0) : Nz [x] := fun y hy => by
 rw [List.mem_singleton.1 hy]; exact h
theorem red_snoc (b : W) (x : Int) : red (b ++ [x]) = push (red b) x := by rw [red_fold,red_fold,pushL_append]; rfl
theorem pushL_red {st : W} (h : Rd st) : ∀ (n : Nat) (b : W),b.length = n -> Nz b -> pushL st (red b) = pushL st b
 | 0,b,hb,_ => by rw [List.length_eq_zero_iff.1 hb]; rfl
 | n + 1,b,hb,hz => by
   rcases List.eq_nil_or_concat b with rfl | ⟨c,x,rfl⟩
   · cases hb
   · rw [List.concat_eq_append] at hb hz ⊢
     have ih := pushL_red h n c (by simpa using hb) hz.left
     rw [red_snoc,pushL_append st c,pushL_one]
     rcases List.eq_nil_or_concat (red c) with hr | ⟨d,y,hr⟩
     · rw [hr] at ih ⊢
       rw [<- ih]
       rfl
     · rw [List.concat_eq_append] at hr
       rw [hr] at ih ⊢
       rw [<- ih,push_snoc]
       by_cases ho : opp y x = true
       · rw [if_pos ho]
         obtain ⟨hy,rfl⟩ := opp_iff.1 ho
         rw [pushL_append,pushL_one,push_back (h.pushL d) hy]
       · rw [if_neg ho,pushL_append]
         rfl
theorem pushL_red' {st : W} (h : Rd st) {b : W} (hz : Nz b) : pushL st (red b) = pushL st b := pushL_red h _ b rfl hz
theorem red_left {a : W} (b : W) (h : Nz a) : red (red a ++ b) = red (a ++ b) := by
 rw [red_fold,red_fold (a ++ b),pushL_append,pushL_append,pushL_red' Rd.nil h]
theorem red_right (a : W) {b : W} (h : Nz b) : red (a ++ red b) = red (a ++ b) := by
 rw [red_fold,red_fold (a ++ b),pushL_append,pushL_append,pushL_red' (Rd.nil.pushL a) h]
def Fe (a b : W) : Prop := red a = red b
theorem Fe.rfl' {a : W} : Fe a a := rfl
theorem Fe.symm {a b : W} (h : Fe a b) : Fe b a := Eq.symm h
theorem Fe.trans {a b c : W} (h : Fe a b) (k : Fe b c) : Fe a c := Eq.trans h k
theorem Fe.app {a b c d : W} (h : Fe a b) (k : Fe c d) (ha : Nz a) (hb : Nz b) (hc : Nz c) (hd : Nz d) : Fe (a ++ c) (b ++ d) := by
 show red (a ++ c) = red (b ++ d)
 rw [<- red_left c ha, <- red_right _ hc,h,k,red_right _ hd,red_left d hb]
theorem LOk.nz {g : Nat} {w : W} (h : LOk g w) : Nz w := fun x hx => (h x hx).2.2
theorem fe_pair {x : Int} (h : x ≠ 0) : Fe [x, -x] [] := by
 show red ([x] ++ [-x]) = []
 rw [red_snoc]
 show push (push [] x) (-x) = []
 exact push_back Rd.nil h
theorem fe_inv : ∀ {a : W},Nz a -> Fe (a ++ inv a) []
 | [],_ => rfl
 | x :: a,h => by
   have hx : x ≠ 0 := h x (by simp)
   have ha : Nz a := fun y hy => h y (by simp [hy])
   rw [inv_cons]
   have ih := fe_inv ha
   have e : x :: a ++ (inv a ++ [-x]) = [x] ++ (a ++ inv a) ++ [-x] := by simp
   rw [e]
   have h1 : Fe ([x] ++ (a ++ inv a)) [x] := Fe.app (b := [x]) (d := []) Fe.rfl' ih (Nz.one hx) (Nz.one hx) (ha.app ha.inv) Nz.nil
   have h2 := h1.app (Fe.rfl' (a := [-x])) ((Nz.one hx).app (ha.app ha.inv)) (Nz.one hx) (Nz.one (by omega)) (Nz.one (by omega))
   exact h2.trans (fe_pair hx)
theorem fe_inv' {a : W} (h : Nz a) : Fe (inv a ++ a) [] := by
 have := fe_inv h.inv
 rwa [inv_inv] at this
theorem Fe.inv {a b : W} (h : Fe a b) (ha : Nz a) (hb : Nz b) : Fe (Ct.inv a) (Ct.inv b) := by
 -- inv a = inv a b inv b = inv a a inv b = inv b
 have h1 : Fe (Ct.inv a ++ (b ++ Ct.inv b)) (Ct.inv a ++ []) := Fe.app Fe.rfl' (fe_inv hb) ha.inv ha.inv (hb.app hb.inv) Nz.nil
 rw [List.append_nil] at h1
 have h2 : Fe (Ct.inv a ++ a ++ Ct.inv b) (Ct.inv a ++ b ++ Ct.inv b) := Fe.app (Fe.app Fe.rfl' h ha.inv ha.inv ha hb) Fe.rfl' (ha.inv.app ha) (ha.inv.app hb) hb.inv hb.inv
 have h3 : Fe (Ct.inv a ++ a ++ Ct.inv b) ([] ++ Ct.inv b) := Fe.app (fe_inv' ha) Fe.rfl' (ha.inv.app ha) Nz.nil hb.inv hb.inv
 rw [List.append_assoc] at h2
 rw [List.append_assoc (Ct.inv a) b] at h2
 rw [List.append_assoc] at h3
 exact (h1.symm.trans h2.symm).trans h3
end Go.Proofs.Ct
namespace Go.Proofs.Tz
open Go.Proofs.Ct (W red inv mulW invW opp foldTo push redTo LOk)
theorem opp_iff' {x y : Int} : opp x y = true ↔ x ≠ 0 /\ y = -x := Ct.opp_iff
theorem opp_false {x y : Int} : opp x y = false ↔ x = 0 \/ y ≠ -x := by
 rw [<- Bool.not_eq_true,opp_iff']
 omega
theorem opp_swap (x y : Int) : opp y x = opp x y := by
 cases h : opp x y with
 | true => rw [opp_iff'] at h ⊢; omega
 | false => rw [opp_false] at h ⊢; omega
theorem opp_neg (x y : Int) : opp (-y) (-x) = opp x y := by
 cases h : opp x y with
 | true => rw [opp_iff'] at h ⊢; omega
 | false => rw [opp_false] at h ⊢; omega
def RdI (w : W) : Prop := ∀ i,i + 1 < w.length -> opp (w.getD i 0) (w.getD (i + 1) 0) = false
def CyI (w : W) : Prop := ∀ i,i < w.length -> opp (w.getD i 0) (w.getD ((i + 1) % w.length) 0) = false
theorem CyI.rd {w : W} (h : CyI w) : RdI w := fun i hi => by
 have := h i (by omega)
 rwa [Nat.mod_eq_of_lt hi] at this
theorem red_of_rd {w : W} (h : RdI w) : red w = w := by
 have key : ∀ k,k <= w.length -> redTo w k = w.take k := by
   intro k
   induction k with
   | zero => intro _; rfl
   | succ k ih =>
     intro hk
     show push (redTo w k) (w.getD k 0) = _
     rw [ih (by omega),Ct.take_snoc0 (by omega)]
     unfold push
     rw [List.length_take,Nat.min_eq_left (by omega)]
     rcases Nat.eq_zero_or_pos k with e | e
     · subst e; rfl
     · have h1 := h (k - 1) (by omega)
       rw [show k - 1 + 1 = k by omega] at h1
       have h2 : (w.take k).getD (k - 1) 0 = w.getD (k - 1) 0 := by
         simp [List.getD_eq_getElem?_getD,show k - 1 < k by omega]
       rw [h2,h1,Bool.and_false,if_neg (by simp)]
 have := key w.length (Nat.le_refl _)
 rwa [List.take_length] at this
theorem rd_of_red (w : W) : RdI (red w) := fun i hi => by
 have h := Ct.rd_red w
 generalize red w = v at *
 refine h (v.take i) _ _ (v.drop (i + 2)) ?_
 have e1 : v.take (i + 2) = v.take i ++ [v.getD i 0] ++ [v.getD (i + 1) 0] := by
   rw [show i + 2 = (i + 1) + 1 by omega,Ct.take_snoc0 (by omega),Ct.take_snoc0 (by omega)]
 rw [<- e1,List.take_append_drop]
theorem getD_drop0 (w : W) (k i : Nat) : (w.drop k).getD i 0 = w.getD (k + i) 0 := by simp [List.getD_eq_getElem?_getD,List.getElem?_drop]
theorem getD_take0 {w : W} {k i : Nat} (h : i < k) : (w.take k).getD i 0 = w.getD i 0 := by simp [List.getD_eq_getElem?_getD,h]
theorem RdI.drop {w : W} (h : RdI w) (k : Nat) : RdI (w.drop k) := fun i hi => by
 rw [List.length_drop] at hi
 rw [getD_drop0,getD_drop0]
 exact h (k + i) (by omega)
theorem RdI.take {w : W} (h : RdI w) (k : Nat) : RdI (w.take k) := fun i hi => by
 rw [List.length_take] at hi
 rw [getD_take0 (by omega),getD_take0 (by omega)]
 exact h i (by omega)
theorem length_rot (w : W) {k : Nat} (h : k <= w.length) : (rot w k).length = w.length := by unfold rot; rw [List.length_append,List.length_drop,List.length_take]; omega
theorem getD_rot {w : W} {k i : Nat} (hk : k <= w.length) (hi : i < w.length) : (rot w k).getD i 0 = w.getD ((i + k) % w.length) 0 := by
 unfold rot
 rcases Nat.lt_or_ge i (w.length - k) with h | h
 · rw [List.getD_eq_getElem?_getD,List.getElem?_append_left (by rw [List.length_drop]; exact h), <- List.getD_eq_getElem?_getD,getD_drop0,Nat.mod_eq_of_lt (by omega),Nat.add_comm]
 · rw [List.getD_eq_getElem?_getD,List.getElem?_append_right (by rw [List.length_drop]; exact h), <- List.getD_eq_getElem?_getD,List.length_drop,getD_take0 (by omega),Nat.mod_eq_sub_mod (by omega),Nat.mod_eq_of_lt (by omega)]
   congr 1
   omega
theorem CyI.rot {w : W} (h : CyI w) {k : Nat} (hk : k <= w.length) : CyI (Tz.rot w k) := fun i hi => by
 rw [length_rot w hk] at hi ⊢
 have hm : (i + 1) % w.length < w.length := Nat.mod_lt _ (by omega)
 rw [getD_rot hk hi,getD_rot hk hm]
 have := h ((i + k) % w.length) (Nat.mod_lt _ (by omega))
 have e : ((i + k) % w.length + 1) % w.length = ((i + 1) % w.length + k) % w.length := by
   rw [Nat.mod_add_mod,Nat.mod_add_mod]
   congr 1
   omega
 rwa [e] at this
theorem length_inv' (w : W) : (inv w).length = w.length := Ct.length_inv w
theorem getD_inv {w : W} {k : Nat} (hk : k < w.length) : (inv w).getD k 0 = -(w.getD (w.length - 1 - k) 0) := by
 unfold Ct.inv
 simp [List.getD_eq_getElem?_getD,hk,show w.length - 1 - k < w.length by omega]
theorem CyI.inv {w : W} (h : CyI w) : CyI (Ct.inv w) := fun i hi => by
 rw [length_inv'] at hi ⊢
 have hm : (i + 1) % w.length < w.length := Nat.mod_lt _ (by omega)
 rw [getD_inv hi,getD_inv hm]
 rcases Nat.lt_or_ge (i + 1) w.length with h1 | h1
 · rw [Nat.mod_eq_of_lt h1]
   have := h (w.length - 1 - (i + 1)) (by omega)
   rw [Nat.mod_eq_of_lt (by omega),show w.length - 1 - (i + 1) + 1 = w.length - 1 - i by omega] at this
   rw [opp_neg]
   exact this
 · obtain rfl : i = w.length - 1 := by omega
   have e : (w.length - 1 + 1) % w.length = 0 := by rw [show w.length - 1 + 1 = w.length by omega,Nat.mod_self]
   have := h (w.length - 1) (by omega)
   rw [e] at this
   rw [e,opp_neg,show w.length - 1 - 0 = w.length - 1 by omega,show w.length - 1 - (w.length - 1) = 0 by omega]
   exact this
theorem CyI.invW {w : W} (h : CyI w) : Ct.invW w = Ct.inv w := red_of_rd h.inv.rd
theorem RdI.inv {w : W} (h : RdI w) : RdI (Ct.inv w) := fun i hi => by
 rw [length_inv'] at hi
 rw [getD_inv (by omega),getD_inv hi,opp_neg]
 have := h (w.length - 1 - (i + 1)) (by omega)
 rwa [show w.length - 1 - (i + 1) + 1 = w.length - 1 - i by omega] at this
theorem cycTo_cy : ∀ (n : Nat) {w : W},RdI w -> w.length <= n -> CyI (cycTo n w)
 | 0,w,_,hl => by
   obtain rfl : w = [] := List.eq_nil_of_length_eq_zero (by omega)
   exact fun i hi => absurd hi (by simp [cycTo])
 | n + 1,w,hw,hl => by
   unfold cycTo
   split
   · exact cycTo_cy n ((hw.drop 1).take _) (by rw [List.length_take,List.length_drop]; omega)
   · rename_i h
     intro i hi
     rcases Nat.lt_or_ge (i + 1) w.length with h1 | h1
     · rw [Nat.mod_eq_of_lt h1]; exact hw i h1
     · obtain rfl : i = w.length - 1 := by omega
       rw [show w.length - 1 + 1 = w.length by omega,Nat.mod_self]
       by_cases h2 : 1 < w.length
       · have : opp (w.getD 0 0) (w.getD (w.length - 1) 0) = false := by
           cases e : opp (w.getD 0 0) (w.getD (w.length - 1) 0) with
           | true => exact absurd ⟨h2,e⟩ h
           | false => rfl
         rw [opp_swap]; exact this
       · rw [show w.length - 1 = 0 by omega,opp_false]; omega
theorem cyc_cy (w : W) : CyI (cyc w) := cycTo_cy _ (rd_of_red w) (Ct.red_length w)
theorem cycTo_sub : ∀ (n : Nat) (w : W),(∀ x ∈ cycTo n w,x ∈ w) /\ (cycTo n w).length <= w.length
 | 0,w => ⟨fun _ h => h,Nat.le_refl _⟩
 | n + 1,w => by
   unfold cycTo
   split
   · obtain ⟨h1,h2⟩ := cycTo_sub n ((w.drop 1).take (w.length - 2))
     rw [List.length_take,List.length_drop] at h2
     exact ⟨fun x hx => List.mem_of_mem_drop (List.mem_of_mem_take (h1 x hx)),by omega⟩
   · exact ⟨fun _ h => h,Nat.le_refl _⟩
theorem cyc_sub (w : W) : (∀ x ∈ cyc w,x ∈ w) /\ (cyc w).length <= w.length := by
 obtain ⟨h1,h2⟩ := cycTo_sub w.length (red w)
 exact ⟨fun x hx => Ct.red_mem (h1 x hx),Nat.le_trans h2 (Ct.red_length w)⟩
theorem bestTo_is (v b : W) : ∀ k,bestTo v b k = b \/ ∃ j,j < k /\ bestTo v b k = rot v j
 | 0 => .inl rfl
 | k + 1 => by
   show (if cmpW (rot v k) (bestTo v b k) < 0 then rot v k else bestTo v b k) = b \/ ∃ j,j < k + 1 /\ (if cmpW (rot v k) (bestTo v b k) < 0 then rot v k else bestTo v b k) = rot v j
   split
   · exact .inr ⟨k,by omega,rfl⟩
   · rcases bestTo_is v b k with h | ⟨j,h1,h2⟩
     · exact .inl h
     · exact .inr ⟨j,by omega,h2⟩
theorem leastOf_is (v : W) : leastZ v = v \/ (∃ j,j < v.length /\ leastZ v = rot v j) \/ ∃ j,j < (invW v).length /\ leastZ v = rot (invW v) j := by
 unfold leastZ
 rcases bestTo_is (invW v) (bestTo v v v.length) (invW v).length with h | ⟨j,h1,h2⟩
 · rw [h]
   rcases bestTo_is v v v.length with h | ⟨j,h1,h2⟩
   · exact .inl h
   · exact .inr (.inl ⟨j,h1,h2⟩)
 · exact .inr (.inr ⟨j,h1,h2⟩)
theorem leastW_cy (w : W) : CyI (leastW w) := by
 have h := cyc_cy w
 unfold leastW
 rcases leastOf_is (cyc w) with e | ⟨j,h1,e⟩ | ⟨j,h1,e⟩ <;> rw [e]
 · exact h
 · exact h.rot (by omega)
 · rw [h.invW] at h1 ⊢
   exact h.inv.rot (by omega)
theorem length_leastW (w : W) : (leastW w).length = (cyc w).length := by
 have h := cyc_cy w
 unfold leastW
 rcases leastOf_is (cyc w) with e | ⟨j,h1,e⟩ | ⟨j,h1,e⟩ <;> rw [e]
 · exact length_rot _ (by omega)
 · rw [length_rot _ (by omega),h.invW,length_inv']
theorem mem_rot {w : W} {k : Nat} {x : Int} (h : x ∈ rot w k) : x ∈ w := by
 rcases List.mem_append.1 h with h | h
 · exact List.mem_of_mem_drop h
 · exact List.mem_of_mem_take h
theorem leastW_ok {g : Nat} {w : W} (hw : LOk g w) : LOk g (leastW w) := by
 have h : LOk g (cyc w) := fun x hx => hw x ((cyc_sub w).1 x hx)
 unfold leastW
 rcases leastOf_is (cyc w) with e | ⟨j,h1,e⟩ | ⟨j,h1,e⟩ <;> rw [e]
 · exact h
 · exact fun x hx => h x (mem_rot hx)
 · exact fun x hx => h.inv x (Ct.red_mem (mem_rot hx))
theorem leastW_len (w : W) : (leastW w).length <= w.length := by rw [length_leastW]; exact (cyc_sub w).2
theorem lenL_cons (x : W) (l : List W) : lenL (x :: l) = x.length + lenL l := by simp [lenL]
theorem lenL_ins (w : W) : ∀ l,lenL (ins w l) <= w.length + lenL l /\ (ins w l).length <= l.length + 1
 | [] => by simp [ins,lenL]
 | x :: l => by
   obtain ⟨h1,h2⟩ := lenL_ins w l
   unfold ins
   split
   · rw [lenL_cons,lenL_cons,List.length_cons,List.length_cons]; omega
   · split
     · rw [List.length_cons]; omega
     · rw [lenL_cons w,List.length_cons (a := w)]; omega
theorem clean_len (rels : List W) : ∀ k,k <= rels.length -> lenL (cleanTo rels k) <= lenL (rels.take k) /\ (cleanTo rels k).length <= k
 | 0,_ => by simp [cleanTo,foldTo,lenL]
 | k + 1,hk => by
   obtain ⟨h1,h2⟩ := clean_len rels k (by omega)
   have e : lenL (rels.take (k + 1)) = lenL (rels.take k) + (rels.getD k []).length := by
     unfold lenL
     rw [List.take_add_one,List.getD_eq_getElem?_getD,List.getElem?_eq_getElem (show k < rels.length by omega),List.map_append,List.sum_append]
     simp
   show lenL (if leastW (rels.getD k []) = [] then cleanTo rels k else ins (leastW (rels.getD k [])) (cleanTo rels k)) <= _ /\ (if leastW (rels.getD k []) = [] then cleanTo rels k else ins (leastW (rels.getD k [])) (cleanTo rels k)).length <= _
   have h3 := leastW_len (rels.getD k [])
   have h4 := lenL_ins (leastW (rels.getD k [])) (cleanTo rels k)
   split <;> omega
theorem mem_cleanTo {rels : List W} {z : W} : ∀ k,k <= rels.length -> z ∈ cleanTo rels k -> ∃ r ∈ rels,z = leastW r /\ z ≠ []
 | 0,_,h => absurd h List.not_mem_nil
 | k + 1,hk,h => by
   have h' : z ∈ (if leastW (rels.getD k []) = [] then cleanTo rels k else ins (leastW (rels.getD k [])) (cleanTo rels k)) := h
   split at h'
   · exact mem_cleanTo k (by omega) h'
   · rename_i hne
     rcases mem_ins.1 h' with e | e
     · refine ⟨rels.getD k [], ?_,e,by rw [e]; exact hne⟩
       rw [List.getD_eq_getElem?_getD,List.getElem?_eq_getElem (show k < rels.length by omega)]
       exact List.getElem_mem _
     · exact mem_cleanTo k (by omega) e
structure Cln (n : Nat) (rels : List W) : Prop where
 n1 : 1 <= n
 n16 : n <= 16
 many : rels.length <= 100
 len : lenL rels <= 4000
 ok : ∀ w ∈ rels,LOk n w
 cy : ∀ w ∈ rels,CyI w
 ne : ∀ w ∈ rels,w ≠ []
theorem cln_clean {n : Nat} {rels : List W} (h1 : 1 <= n) (h2 : n <= 16) (h3 : rels.length <= 100) (h4 : lenL rels <= 4000) (h5 : ∀ w ∈ rels,LOk n w) : Cln n (cleanL rels) := by
 obtain ⟨a,b⟩ := clean_len rels rels.length (Nat.le_refl _)
 rw [List.take_length] at a
 refine ⟨h1,h2,by unfold cleanL; omega,by unfold cleanL; omega,fun w hw => ?_,fun w hw => ?_,fun w hw => ?_⟩ <;> obtain ⟨r,k1,k2,k3⟩ := mem_cleanTo _ (Nat.le_refl _) hw
 · rw [k2]; exact leastW_ok (h5 r k1)
 · rw [k2]; exact leastW_cy r
 · exact k3
end Go.Proofs.Tz
