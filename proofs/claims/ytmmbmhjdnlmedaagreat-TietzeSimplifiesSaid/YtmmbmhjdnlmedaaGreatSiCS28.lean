/- Arguments opened: lists of numbers, tables, presentations; Arguments opened: presentations. -/
import Derived.Test.YtmmbmhjdnlmedaaGreatSiCS1
import Derived.ProofKit
import Derived.Deep.Slices
import Derived.Deep.Strs
namespace Go.Proofs
open Go.RowKit Go.ChangeShapes Go.WideShapes Go.ChangeAt Go.Deep
section
variable {H : Type} {enc : TypeId × Value -> H} {W : World}
theorem spot_none {a : Addr} {v : Value} (h : W.cell? (a.add 0) = some v) : a = ⟨a.block,a.off,none⟩ := by
 obtain ⟨b,o,s⟩ := a
 cases s with
 | none => rfl
 | some q =>
   exfalso
   have e : ({ block := b,off := o,spot := some q } : Addr).add 0 = { block := b,off := o,spot := some q } := by unfold Addr.add; rw [if_pos rfl]
   rw [e] at h
   unfold World.cell? at h
   simp only [Option.isSome_some,if_true] at h
   split at h <;> cases h
theorem wf_fits {x : Int} (h : (Lit.int .i64 x).wf = true) : -9223372036854775808 <= x /\ x <= 9223372036854775807 := by
 simpa [Lit.wf,IntKind.min,IntKind.max,IntKind.signed,IntKind.bits] using h
theorem lat_of_trod {α : Type} {R : World -> Value -> α -> Prop} {d : α} {t e : TypeId} {base fuel : Nat} {spare : Nat -> Bool} {held : Bool} {v : Value} {x : DataW H × List MemPlace} (ht : Tryz.prog.underlying t = some (.slice e)) (hc : Tryz.prog.cellsOf e = 1)
   (hR : ∀ n u y,DataW.trod enc Tryz.prog W base spare held n e [u] = some y -> ∃ z,R W u z) (h : DataW.trod enc Tryz.prog W base spare held fuel t [v] = some x) : ∃ xs,LAt R d W v xs := by
 rcases open_slice1 ht hc h with ⟨hv, -⟩ | ⟨a,len,cap,m,n,V,D,Pl,hv, -,hl,hm,hmm, -,hx⟩
 · obtain rfl : v = .slice none 0 0 := by simpa using hv
   exact ⟨[], [],⟨none,0,0,rfl,rfl,Nat.le_refl _,by simp [maxLen],fun h => absurd h (by simp)⟩,rfl,fun i hi => absurd hi (by simp)⟩
 · obtain rfl : v = .slice (some a) len cap := by simpa using hv
   have hlm : len <= m := by rw [hmm]; split <;> omega
   have hz : ∀ i,i < len -> ∃ z,R W (V i) z := fun i hi => hR n (V i) _ (hx i (by omega)).2
   have hf : ∃ f : Nat -> α, ∀ i,i < len -> R W (V i) (f i) := by
     have hz' : ∀ i, ∃ z,i < len -> R W (V i) z := fun i => by
       by_cases hi : i < len
       · obtain ⟨z,hz⟩ := hz i hi; exact ⟨z,fun _ => hz⟩
       · exact ⟨d,fun h => absurd h hi⟩
     exact ⟨fun i => Classical.choose (hz' i),fun i => Classical.choose_spec (hz' i)⟩
   obtain ⟨f,hf⟩ := hf
   refine ⟨(List.range len).map f,(List.range len).map V,⟨_,len,cap,rfl,by simp,hl,hm,fun h0 => ?_⟩,by simp,fun i hi => ?_⟩
   · have hsp := spot_none (hx 0 (by omega)).1
     refine ⟨a.block,a.off,by rw [<- hsp],fun j u hu => ?_⟩
     have hj : j < len := by have := (List.getElem?_eq_some_iff.1 hu).1; simpa using this
     have := (hx j (by omega)).1
     rw [hsp,Addr.add_lit] at this
     rw [this, <- hu]
     simp [List.getElem?_range hj]
   · have hi' : i < len := by simpa using hi
     refine ⟨V i,by simp [List.getElem?_range hi'], ?_⟩
     have : ((List.range len).map f).getD i d = f i := by simp [List.getD_eq_getElem?_getD,List.getElem?_range hi']
     rw [this]
     exact hf i hi'
theorem intsT_of_trod {t : TypeId} (ht : Tryz.prog.underlying t = some (.slice 3)) {base fuel : Nat} {spare : Nat -> Bool} {held : Bool} {v : Value} {x : DataW H × List MemPlace} (h : DataW.trod enc Tryz.prog W base spare held fuel t [v] = some x) : ∃ xs,IntsAt W v xs := by
 obtain ⟨xs,vs,hS,hl,he⟩ := lat_of_trod (R := fun _ u z => u = .int .i64 z /\ (Lit.int .i64 z).wf = true) (d := 0) ht (by kernel_rfl) (fun n u y hy => by
   obtain ⟨m,hu, -,hw⟩ := DataW.trod_int Tryz.underlying3 hy
   exact ⟨m,by simpa using hu,hw⟩) h
 have hvs : vs = ints xs := by
   apply List.ext_getElem (by simpa [ints] using hl)
   intro i h1 h2
   obtain ⟨u,hu,rfl, -⟩ := he i (by omega)
   have hi : i < xs.length := by omega
   rw [List.getElem?_eq_getElem h1] at hu
   rw [Option.some.inj hu]
   simp [ints,List.getD_eq_getElem?_getD,hi]
 refine ⟨xs,hvs ▸ hS,fun z hz => ?_⟩
 obtain ⟨i,hi,rfl⟩ := List.getElem_of_mem hz
 obtain ⟨u, -, -,hw⟩ := he i hi
 have e : xs.getD i 0 = xs[i] := by simp [List.getD_eq_getElem?_getD,hi]
 rw [e] at hw
 exact wf_fits hw
theorem word_of_trod {base fuel : Nat} {spare : Nat -> Bool} {held : Bool} {v : Value} {x : DataW H × List MemPlace} (h : DataW.trod enc Tryz.prog W base spare held fuel 36 [v] = some x) : ∃ xs,IntsAt W v xs := intsT_of_trod Tryz.underlying36 h
theorem words_of_trod {base fuel : Nat} {spare : Nat -> Bool} {held : Bool} {v : Value} {x : DataW H × List MemPlace} (h : DataW.trod enc Tryz.prog W base spare held fuel 22 [v] = some x) : ∃ L,Tab W v L :=
 lat_of_trod Tryz.underlying22 (by kernel_rfl) (fun _ _ _ hy => word_of_trod hy) h
end
end Go.Proofs
namespace Go.Proofs
open Go.RowKit Go.ChangeShapes Go.WideShapes Go.ChangeAt Go.Deep
section
variable {H : Type} {enc : TypeId × Value -> H} {W : World}
theorem cells40p : Tryz.prog.cellsOf 24 = 2 := by kernel_rfl
theorem cells3p : Tryz.prog.cellsOf 3 = 1 := by kernel_rfl
theorem cells31p : Tryz.prog.cellsOf 22 = 1 := by kernel_rfl
set_option maxRecDepth 100000 in
theorem pres_of_trod {base : Nat} {spare : Nat -> Bool} {held : Bool} {v : Value} {d : DataW H} {ps : List MemPlace} (h : DataW.Trod enc Tryz.prog W base spare held 24 v d ps) : ∃ g a1 P,v = .agg #[.int .i64 g,a1] /\ Tab W a1 P := by
 obtain ⟨fuel,hf⟩ := h
 obtain ⟨y0,y1,n, -,hlen,h0,h1⟩ := trod_struct2 Tryz.underlying24 hf
 rw [cells40p] at hlen
 obtain ⟨cs,rfl⟩ : ∃ cs,v = .agg cs := by
   cases v <;> simp [Value.cells] at hlen
   exact ⟨_,rfl⟩
 have hcs : cs.toList.length = 2 := hlen
 obtain ⟨l⟩ := cs
 match l,hcs with
 | [a0,a1],_ =>
   simp [Value.cells,cells3p,cells31p] at h0 h1
   obtain ⟨m,hu, -,hw⟩ := DataW.trod_int Tryz.underlying3 h0
   obtain ⟨L,hL⟩ := words_of_trod h1
   have e : a0 = .int .i64 m := by simpa using hu
   subst e
   exact ⟨m,a1,L,rfl,hL⟩
end
end Go.Proofs
