/- FelschSame: the strategies that end lead to the same table, which holds, for all numbers; no condition. -/
import Derived.Test.YtmpnengjboabcaaRows
import Derived.ProofKit
import Derived.OpenShut
import Derived.Test.YtmpnengjboabcaaFsCS32
namespace Go.Proofs.Ytmpnengjboabcaa
open Go.ChangeShapes Go.WideShapes Go.ChangeAt Go.RowKit
theorem fs_k0:(Rows.felschSameRow.wf (OpenSpec.ofChange Rows.felschSameSpec))=true:=by kernel_rfl
theorem fs_k3:(Try.f20.params.all (Try.prog.readableRec ·))=true:=by kernel_rfl
theorem fs_k4:(namedTie Try.prog Rows.felschSameRow.named Rows.felschSameSpec.vars)=true:=by kernel_rfl
theorem fs_k5:((Rows.felschSameRow.stops == []))=true:=by kernel_rfl
theorem fs_k6:((Try.prog.stops == []))=true:=by kernel_rfl
theorem fs_k7:((Rows.felschSameRow.knobs == []))=true:=by kernel_rfl
theorem fs_k8:((Try.prog.stopKnobs == []))=true:=by kernel_rfl
theorem fs_k9:((Rows.felschSameRow.inPlace == Try.prog.inPlace 20))=true:=by kernel_rfl
theorem julb:((Rows.felschSameRow.unfollowed == Try.prog.unfollowed 20))=true:=by kernel_rfl
theorem jtlb:((Rows.felschSameRow.recurses == Try.prog.recurses 20))=true:=by kernel_rfl
theorem jslb:((Rows.felschSameRow.named == Try.prog.varsNamed 20))=true:=by kernel_rfl
theorem jrlb:((Rows.felschSameRow.maps == (Try.f20.params.toList ++ Rows.felschSameSpec.plain.varTypes Try.prog).any (Try.prog.mapsRec ·)))=true:=by kernel_rfl
theorem jqlb:((Rows.felschSameRow.ifaces == (Try.f20.params.toList ++ Rows.felschSameSpec.plain.varTypes Try.prog).any (Try.prog.ifacesRec ·)))=true:=by kernel_rfl
theorem jplb:((Rows.felschSameRow.mapsOut == Try.prog.mapsAmong Try.f20.resultTypes.toList))=true:=by kernel_rfl
theorem jolb:((Rows.felschSameRow.loops == (Try.f20.params.toList ++ Rows.felschSameSpec.plain.varTypes Try.prog).any (Try.prog.loopsFrom ·)))=true:=by kernel_rfl
theorem jnlb:((Rows.felschSameRow.wideKeys == (Try.f20.params.toList ++ Rows.felschSameSpec.plain.varTypes Try.prog ++ Try.f20.resultTypes.toList).any (Try.prog.wideKeysFrom ·)))=true:=by kernel_rfl
theorem jmlb:(Rows.felschSameSpec.vars.all (Try.prog.varReadable ·))=true:=by kernel_rfl
theorem jllb:(Try.f20.resultTypes.all (fun t=>Try.prog.readableRec t && decide (t < Try.prog.types.size)))=true:=by kernel_rfl
theorem jklb:((Rows.felschSameRow.ifacesOut == Try.f20.resultTypes.toList.any (Try.prog.ifacesRec ·)))=true:=by kernel_rfl
theorem jjlb:((Rows.felschSameRow.loopsOut == Try.f20.resultTypes.toList.any (Try.prog.loopsFrom ·)))=true:=by kernel_rfl
theorem jilb:((Rows.felschSameRow.plainKeys == Try.prog.plainKeys))=true:=by kernel_rfl
theorem jhlb:(Rows.felschSameRow.shortTexts.isNone)=true:=by kernel_rfl
theorem jglb:((Rows.felschSameRow.domain.isEmpty && Rows.felschSameRow.kinds == []))=true:=by kernel_rfl
theorem jflb:((Rows.felschSameRow.pinned == Rows.felschSameRow.pinnedBy))=true:=by kernel_rfl
theorem jelb:((Rows.felschSameRow.veiled == (Try.f20.params.toList ++ Rows.felschSameSpec.plain.varTypes Try.prog ++ Try.f20.resultTypes.toList).any (Try.prog.veiledRec ·)))=true:=by kernel_rfl
theorem jdlb:(Rows.felschSameRow.veiledFits Try.prog Try.f20.params.toList (Try.f20.params.toList ++ Rows.felschSameSpec.plain.varTypes Try.prog ++ Try.f20.resultTypes.toList))=true:=by kernel_rfl
theorem jjhb:Try.pinned.checked.prog.funcNamed Rows.felschSameRow.func=some 20:=by kernel_rfl
theorem jefb:joinedFacts Try.prog 20 Try.f20 Rows.felschSameSpec Rows.felschSameRow=true:=jweb fs_k0 jnib jvlb fs_k3 fs_k4 fs_k5 fs_k6 fs_k7 fs_k8 fs_k9 julb jtlb jslb jrlb jqlb jplb jolb jnlb jmlb jllb jklb jjlb jilb jhlb jtjb jsjb jrjb jqjb jglb jflb jelb jdlb
theorem own:ownKnob Try.prog.godebug=none:=by kernel_rfl
theorem laidOut:laidOutB Try.prog=true:=jnib
set_option maxHeartbeats 800000 in
set_option maxRecDepth 100000 in
theorem jdfb (os:Os) (started:os.Started) (H:Type) (enc:TypeId × Value->H) :
   ReturnsInHanded {} Try.checked os 20 .any (Rows.felschSameSpec.pre6 enc Try.prog Try.f20 Rows.felschSameRow.domain false) (Rows.felschSameSpec.post enc Try.prog Try.f20 false true false false):=by
 refine returnsInHanded_of_change (C:=Try.checked) own started (by kernel_rfl) Try.func20
   (ChangeSpec.witness6 (enc:=enc) (C:=Try.checked) false ⟨#[],#[.int .i64 0,.slice none 0 0,.slice none 0 0,.int .i64 0], []⟩ 8 (by kernel_rfl) (by kernel_rfl) (by kernel_rfl) (by kernel_rfl)) ?_
 intro W base args ds gs before hval0 hW _ _
 have hval:∀ (j:Nat) t v,Try.f20.params[j]?=some t->args[j]?=some v->Value.okWide Try.prog W .any base t v:=hval0
 have hW':=hW
 obtain ⟨p,q,hA0,hV,rfl,_,_⟩:=hW
 have hA:DataW.TrodAll enc Try.prog W 0 (fun _=>true) true Try.f20.params.toList args.toList ds p:=hA0
 rw [Try.params20] at hA hval
 obtain ⟨v0,vs0,d0,ds0,p0,q0,hargs0,rfl,rfl,h0,r0⟩:=trodAll_cons hA
 obtain ⟨v1,vs1,d1,ds1,p1,q1,hargs1,rfl,rfl,h1,r1⟩:=trodAll_cons r0
 obtain ⟨v2,vs2,d2,ds2,p2,q2,hargs2,rfl,rfl,h2,r2⟩:=trodAll_cons r1
 obtain ⟨v3,vs3,d3,ds3,p3,q3,hargs3,rfl,rfl,h3,r3⟩:=trodAll_cons r2
 obtain ⟨rfl,rfl,rfl⟩:=trodAll_nil r3
 subst hargs1
 subst hargs2
 subst hargs3
 obtain rfl:args = #[v0,v1,v2,v3]:=by cases args; simp_all
 obtain ⟨rfl,rfl⟩:=trodVars_none hV
 clear hA0 hval0
 simp only [List.append_nil] at hW'
 have hlt:∀ x ∈ p0 ++ (p1 ++ (p2 ++ (p3 ++ ([])))),x.block < W.heap.size:=fun x hx=>hW'.lt x (by simpa using hx)
 have k0:=h0
 obtain ⟨m0,e0,-,-,hw0⟩:=open_int Try.underlying3 (hval 0 _ _ rfl rfl) h0
 subst e0
 have b0:=jex hw0
 have k1:=h1
 obtain ⟨A1,n1,c1,rfl⟩:=okWide_slice Try.underlying24 (hval 1 24 v1 rfl rfl)
 obtain ⟨f1,hf1⟩:=h1
 obtain ⟨l1,hl1⟩:=jpn hf1
 have k2:=h2
 obtain ⟨A2,n2,c2,rfl⟩:=okWide_slice Try.underlying24 (hval 2 24 v2 rfl rfl)
 obtain ⟨f2,hf2⟩:=h2
 obtain ⟨l2,hl2⟩:=jpn hf2
 have k3:=h3
 obtain ⟨m3,e3,-,-,hw3⟩:=open_int Try.underlying3 (hval 3 _ _ rfl rfl) h3
 subst e3
 have b3:=jex hw3
 refine (jbo W m0 _ _ l1 l2 m3 hl1 hl2 b0).mono fun e W' ⟨he,hb⟩ => ?_
 subst he
 have hk:∀ {t:TypeId} {v:Value} {d:DataW H} {ps:List MemPlace},Try.prog.readableRec t=true->t < Try.prog.types.size->DataW.Trod enc Try.prog W 0 (fun _=>true) true t v d ps->(∀ x ∈ ps,x.block < W.heap.size) ->
     DataW.Trod enc Try.prog W' 0 (fun b=>decide (b < W.heap.size)) true t v d ps:=fun hr ht h hs=>Below.trod laidOut hr ht h hb hs
 exact ⟨_,rfl,_,_,_, [],_, [],hW',trodAll_mk1 (shut_bool Try.underlying4 _),(trodAll_cons_mk (hk (by kernel_rfl) (of_decide_eq_true (by kernel_rfl)) k0 (fun x hx=>hlt x (by simp [hx]))) (trodAll_cons_mk (hk (by kernel_rfl) (of_decide_eq_true (by kernel_rfl)) k1 (fun x hx=>hlt x (by simp [hx]))) (trodAll_cons_mk (hk (by kernel_rfl) (of_decide_eq_true (by kernel_rfl)) k2 (fun x hx=>hlt x (by simp [hx]))) (trodAll_cons_mk (hk (by kernel_rfl) (of_decide_eq_true (by kernel_rfl)) k3 (fun x hx=>hlt x (by simp [hx]))) trodAll_mk0)))),rfl,hb.frame _,fun h=>by cases h⟩
theorem fs_holds:Rows.FelschSameSaid :=
 OpenClaim.holds_of_wide 20 Try.f20 rfl rfl rfl rfl rfl rfl rfl ⟨rfl,rfl,rfl,rfl,rfl⟩ rfl rfl rfl rfl rfl jjhb Try.func20 jefb
   (of_decide_eq_true (by kernel_rfl)) (by unfold Func.isWrapper; first | (rw [if_pos (by decide +kernel)]; kernel_rfl) | (rw [if_neg (by decide +kernel)]; exact ⟨rfl,rfl⟩))
   (fun os started H enc _=>jdfb os started H enc)
#print axioms fs_holds
end Go.Proofs.Ytmpnengjboabcaa
