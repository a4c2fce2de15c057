/- FelschRoom: lookahead changes nothing where there is room enough, and ends with the room that the limit leaves, for all numbers; no condition. -/
import Derived.Test.YtmpnengjboabcaaRows
import Derived.ProofKit
import Derived.OpenShut
import Derived.Test.YtmpnengjboabcaaFmCS30
namespace Go.Proofs.Ytmpnengjboabcaa
open Go.ChangeShapes Go.WideShapes Go.ChangeAt Go.RowKit
theorem fm_k0 : (Rows.felschRoomRow.wf (OpenSpec.ofChange Rows.felschRoomSpec)) = true := by kernel_rfl
theorem fm_k3 : (Try.f21.params.all (Try.prog.readableRec ·)) = true := by kernel_rfl
theorem fm_k4 : (namedTie Try.prog Rows.felschRoomRow.named Rows.felschRoomSpec.vars) = true := by kernel_rfl
theorem fm_k5 : ((Rows.felschRoomRow.stops == [])) = true := by kernel_rfl
theorem fm_k6 : ((Try.prog.stops == [])) = true := by kernel_rfl
theorem fm_k7 : ((Rows.felschRoomRow.knobs == [])) = true := by kernel_rfl
theorem fm_k8 : ((Try.prog.stopKnobs == [])) = true := by kernel_rfl
theorem fm_k9 : ((Rows.felschRoomRow.inPlace == Try.prog.inPlace 21)) = true := by kernel_rfl
theorem fm_k10 : ((Rows.felschRoomRow.unfollowed == Try.prog.unfollowed 21)) = true := by kernel_rfl
theorem fm_k11 : ((Rows.felschRoomRow.recurses == Try.prog.recurses 21)) = true := by kernel_rfl
theorem fm_k12 : ((Rows.felschRoomRow.named == Try.prog.varsNamed 21)) = true := by kernel_rfl
theorem fm_k13 : ((Rows.felschRoomRow.maps == (Try.f21.params.toList ++ Rows.felschRoomSpec.plain.varTypes Try.prog).any (Try.prog.mapsRec ·))) = true := by kernel_rfl
theorem fm_k14 : ((Rows.felschRoomRow.ifaces == (Try.f21.params.toList ++ Rows.felschRoomSpec.plain.varTypes Try.prog).any (Try.prog.ifacesRec ·))) = true := by kernel_rfl
theorem fm_k15 : ((Rows.felschRoomRow.mapsOut == Try.prog.mapsAmong Try.f21.resultTypes.toList)) = true := by kernel_rfl
theorem fm_k16 : ((Rows.felschRoomRow.loops == (Try.f21.params.toList ++ Rows.felschRoomSpec.plain.varTypes Try.prog).any (Try.prog.loopsFrom ·))) = true := by kernel_rfl
theorem fm_k17 : ((Rows.felschRoomRow.wideKeys == (Try.f21.params.toList ++ Rows.felschRoomSpec.plain.varTypes Try.prog ++ Try.f21.resultTypes.toList).any (Try.prog.wideKeysFrom ·))) = true := by kernel_rfl
theorem fm_k18 : (Rows.felschRoomSpec.vars.all (Try.prog.varReadable ·)) = true := by kernel_rfl
theorem fm_k19 : (Try.f21.resultTypes.all (fun t => Try.prog.readableRec t && decide (t < Try.prog.types.size))) = true := by kernel_rfl
theorem fm_k20 : ((Rows.felschRoomRow.ifacesOut == Try.f21.resultTypes.toList.any (Try.prog.ifacesRec ·))) = true := by kernel_rfl
theorem fm_k21 : ((Rows.felschRoomRow.loopsOut == Try.f21.resultTypes.toList.any (Try.prog.loopsFrom ·))) = true := by kernel_rfl
theorem fm_k22 : ((Rows.felschRoomRow.plainKeys == Try.prog.plainKeys)) = true := by kernel_rfl
theorem fm_k23 : (Rows.felschRoomRow.shortTexts.isNone) = true := by kernel_rfl
theorem fm_k28 : ((Rows.felschRoomRow.domain.isEmpty && Rows.felschRoomRow.kinds == [])) = true := by kernel_rfl
theorem fm_k29 : ((Rows.felschRoomRow.pinned == Rows.felschRoomRow.pinnedBy)) = true := by kernel_rfl
theorem fm_k30 : ((Rows.felschRoomRow.veiled == (Try.f21.params.toList ++ Rows.felschRoomSpec.plain.varTypes Try.prog ++ Try.f21.resultTypes.toList).any (Try.prog.veiledRec ·))) = true := by kernel_rfl
theorem fm_k31 : (Rows.felschRoomRow.veiledFits Try.prog Try.f21.params.toList (Try.f21.params.toList ++ Rows.felschRoomSpec.plain.varTypes Try.prog ++ Try.f21.resultTypes.toList)) = true := by kernel_rfl
theorem fm_named : Try.pinned.checked.prog.funcNamed Rows.felschRoomRow.func = some 21 := by kernel_rfl
theorem fm_joined : joinedFacts Try.prog 21 Try.f21 Rows.felschRoomSpec Rows.felschRoomRow = true := joined_mk fm_k0 fac_k1 fac_k2 fm_k3 fm_k4 fm_k5 fm_k6 fm_k7 fm_k8 fm_k9 fm_k10 fm_k11 fm_k12 fm_k13 fm_k14 fm_k15 fm_k16 fm_k17 fm_k18 fm_k19 fm_k20 fm_k21 fm_k22 fm_k23 fac_k24 fac_k25 fac_k26 fac_k27 fm_k28 fm_k29 fm_k30 fm_k31
theorem own : ownKnob Try.prog.godebug = none := by kernel_rfl
theorem laidOut : laidOutB Try.prog = true := fac_k1
set_option maxHeartbeats 800000 in
set_option maxRecDepth 100000 in
theorem fm_lifted (os : Os) (started : os.Started) (H : Type) (enc : TypeId × Value -> H) :
   ReturnsInHanded {} Try.checked os 21 .any (Rows.felschRoomSpec.pre6 enc Try.prog Try.f21 Rows.felschRoomRow.domain false) (Rows.felschRoomSpec.post enc Try.prog Try.f21 false true false false) := by
 refine returnsInHanded_of_change (C := Try.checked) own started (by kernel_rfl) Try.func21
   (ChangeSpec.witness6 (enc := enc) (C := Try.checked) false ⟨#[], #[.int .i64 0, .slice none 0 0, .slice none 0 0, .int .i64 0], []⟩ 8 (by kernel_rfl) (by kernel_rfl) (by kernel_rfl) (by kernel_rfl)) ?_
 intro W base args ds gs before hval0 hW _ _
 have hval : ∀ (j : Nat) t v,Try.f21.params[j]? = some t -> args[j]? = some v -> Value.okWide Try.prog W .any base t v := hval0
 have hW' := hW
 obtain ⟨p,q,hA0,hV,rfl,_,_⟩ := hW
 have hA : DataW.TrodAll enc Try.prog W 0 (fun _ => true) true Try.f21.params.toList args.toList ds p := hA0
 rw [Try.params21] at hA hval
 obtain ⟨v0,vs0,d0,ds0,p0,q0,hargs0,rfl,rfl,h0,r0⟩ := trodAll_cons hA
 obtain ⟨v1,vs1,d1,ds1,p1,q1,hargs1,rfl,rfl,h1,r1⟩ := trodAll_cons r0
 obtain ⟨v2,vs2,d2,ds2,p2,q2,hargs2,rfl,rfl,h2,r2⟩ := trodAll_cons r1
 obtain ⟨v3,vs3,d3,ds3,p3,q3,hargs3,rfl,rfl,h3,r3⟩ := trodAll_cons r2
 obtain ⟨rfl,rfl,rfl⟩ := trodAll_nil r3
 subst hargs1
 subst hargs2
 subst hargs3
 obtain rfl : args = #[v0,v1,v2,v3] := by cases args; simp_all
 obtain ⟨rfl,rfl⟩ := trodVars_none hV
 clear hA0 hval0
 simp only [List.append_nil] at hW'
 have hlt : ∀ x ∈ p0 ++ (p1 ++ (p2 ++ (p3 ++ ([])))),x.block < W.heap.size := fun x hx => hW'.lt x (by simpa using hx)
 have k0 := h0
 obtain ⟨m0,e0, -, -,hw0⟩ := open_int Try.underlying3 (hval 0 _ _ rfl rfl) h0
 subst e0
 have b0 := wf_fits hw0
 have k1 := h1
 obtain ⟨A1,n1,c1,rfl⟩ := okWide_slice Try.underlying24 (hval 1 24 v1 rfl rfl)
 obtain ⟨f1,hf1⟩ := h1
 obtain ⟨l1,hl1⟩ := ints_of_trod hf1
 have k2 := h2
 obtain ⟨A2,n2,c2,rfl⟩ := okWide_slice Try.underlying24 (hval 2 24 v2 rfl rfl)
 obtain ⟨f2,hf2⟩ := h2
 obtain ⟨l2,hl2⟩ := ints_of_trod hf2
 have k3 := h3
 obtain ⟨m3,e3, -, -,hw3⟩ := open_int Try.underlying3 (hval 3 _ _ rfl rfl) h3
 subst e3
 have b3 := wf_fits hw3
 refine (felschRoom21_any W m0 _ _ l1 l2 m3 hl1 hl2 b0).mono fun e W' ⟨he,hb⟩ => ?_
 subst he
 have hk : ∀ {t : TypeId} {v : Value} {d : DataW H} {ps : List MemPlace},Try.prog.readableRec t = true -> t < Try.prog.types.size -> DataW.Trod enc Try.prog W 0 (fun _ => true) true t v d ps -> (∀ x ∈ ps,x.block < W.heap.size) ->
     DataW.Trod enc Try.prog W' 0 (fun b => decide (b < W.heap.size)) true t v d ps := fun hr ht h hs => Below.trod laidOut hr ht h hb hs
 exact ⟨_,rfl,_,_,_, [],_, [],hW',trodAll_mk1 (shut_bool Try.underlying4 _),(trodAll_cons_mk (hk (by kernel_rfl) (of_decide_eq_true (by kernel_rfl)) k0 (fun x hx => hlt x (by simp [hx]))) (trodAll_cons_mk (hk (by kernel_rfl) (of_decide_eq_true (by kernel_rfl)) k1 (fun x hx => hlt x (by simp [hx]))) (trodAll_cons_mk (hk (by kernel_rfl) (of_decide_eq_true (by kernel_rfl)) k2 (fun x hx => hlt x (by simp [hx]))) (trodAll_cons_mk (hk (by kernel_rfl) (of_decide_eq_true (by kernel_rfl)) k3 (fun x hx => hlt x (by simp [hx]))) trodAll_mk0)))),rfl,hb.frame _,fun h => by cases h⟩
theorem fm_holds : Rows.FelschRoomSaid :=
 OpenClaim.holds_of_wide 21 Try.f21 rfl rfl rfl rfl rfl rfl rfl ⟨rfl,rfl,rfl,rfl,rfl⟩ rfl rfl rfl rfl rfl fm_named Try.func21 fm_joined
   (of_decide_eq_true (by kernel_rfl)) (by unfold Func.isWrapper; first | (rw [if_pos (by decide +kernel)]; kernel_rfl) | (rw [if_neg (by decide +kernel)]; exact ⟨rfl,rfl⟩))
   (fun os started H enc _ => fm_lifted os started H enc)
#print axioms fm_holds
end Go.Proofs.Ytmpnengjboabcaa
