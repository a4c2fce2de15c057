/- FelschKnown: the examples of the chapter have the results given there; no condition. -/
import Derived.Test.YtmpnengjboabcaaRows
import Derived.ProofKit
import Derived.OpenShut
import Derived.Test.YtmpnengjboabcaaFkCS26
namespace Go.Proofs.Ytmpnengjboabcaa
open Go.ChangeShapes Go.WideShapes Go.ChangeAt Go.RowKit
theorem fk_k0 : (Rows.felschKnownRow.wf (OpenSpec.ofChange Rows.felschKnownSpec)) = true := by kernel_rfl
theorem fk_k3 : (Try.f19.params.all (Try.prog.readableRec ·)) = true := by kernel_rfl
theorem fk_k4 : (namedTie Try.prog Rows.felschKnownRow.named Rows.felschKnownSpec.vars) = true := by kernel_rfl
theorem fk_k5 : ((Rows.felschKnownRow.stops == [])) = true := by kernel_rfl
theorem fk_k6 : ((Try.prog.stops == [])) = true := by kernel_rfl
theorem fk_k7 : ((Rows.felschKnownRow.knobs == [])) = true := by kernel_rfl
theorem fk_k8 : ((Try.prog.stopKnobs == [])) = true := by kernel_rfl
theorem fk_k9 : ((Rows.felschKnownRow.inPlace == Try.prog.inPlace 19)) = true := by kernel_rfl
theorem fk_k10 : ((Rows.felschKnownRow.unfollowed == Try.prog.unfollowed 19)) = true := by kernel_rfl
theorem fk_k11 : ((Rows.felschKnownRow.recurses == Try.prog.recurses 19)) = true := by kernel_rfl
theorem fk_k12 : ((Rows.felschKnownRow.named == Try.prog.varsNamed 19)) = true := by kernel_rfl
theorem fk_k13 : ((Rows.felschKnownRow.maps == (Try.f19.params.toList ++ Rows.felschKnownSpec.plain.varTypes Try.prog).any (Try.prog.mapsRec ·))) = true := by kernel_rfl
theorem fk_k14 : ((Rows.felschKnownRow.ifaces == (Try.f19.params.toList ++ Rows.felschKnownSpec.plain.varTypes Try.prog).any (Try.prog.ifacesRec ·))) = true := by kernel_rfl
theorem fk_k15 : ((Rows.felschKnownRow.mapsOut == Try.prog.mapsAmong Try.f19.resultTypes.toList)) = true := by kernel_rfl
theorem fk_k16 : ((Rows.felschKnownRow.loops == (Try.f19.params.toList ++ Rows.felschKnownSpec.plain.varTypes Try.prog).any (Try.prog.loopsFrom ·))) = true := by kernel_rfl
theorem fk_k17 : ((Rows.felschKnownRow.wideKeys == (Try.f19.params.toList ++ Rows.felschKnownSpec.plain.varTypes Try.prog ++ Try.f19.resultTypes.toList).any (Try.prog.wideKeysFrom ·))) = true := by kernel_rfl
theorem fk_k18 : (Rows.felschKnownSpec.vars.all (Try.prog.varReadable ·)) = true := by kernel_rfl
theorem fk_k19 : (Try.f19.resultTypes.all (fun t => Try.prog.readableRec t && decide (t < Try.prog.types.size))) = true := by kernel_rfl
theorem fk_k20 : ((Rows.felschKnownRow.ifacesOut == Try.f19.resultTypes.toList.any (Try.prog.ifacesRec ·))) = true := by kernel_rfl
theorem fk_k21 : ((Rows.felschKnownRow.loopsOut == Try.f19.resultTypes.toList.any (Try.prog.loopsFrom ·))) = true := by kernel_rfl
theorem fk_k22 : ((Rows.felschKnownRow.plainKeys == Try.prog.plainKeys)) = true := by kernel_rfl
theorem fk_k23 : (Rows.felschKnownRow.shortTexts.isNone) = true := by kernel_rfl
theorem fk_k28 : ((Rows.felschKnownRow.domain.isEmpty && Rows.felschKnownRow.kinds == [])) = true := by kernel_rfl
theorem fk_k29 : ((Rows.felschKnownRow.pinned == Rows.felschKnownRow.pinnedBy)) = true := by kernel_rfl
theorem fk_k30 : ((Rows.felschKnownRow.veiled == (Try.f19.params.toList ++ Rows.felschKnownSpec.plain.varTypes Try.prog ++ Try.f19.resultTypes.toList).any (Try.prog.veiledRec ·))) = true := by kernel_rfl
theorem fk_k31 : (Rows.felschKnownRow.veiledFits Try.prog Try.f19.params.toList (Try.f19.params.toList ++ Rows.felschKnownSpec.plain.varTypes Try.prog ++ Try.f19.resultTypes.toList)) = true := by kernel_rfl
theorem fk_named : Try.pinned.checked.prog.funcNamed Rows.felschKnownRow.func = some 19 := by kernel_rfl
theorem fk_joined : joinedFacts Try.prog 19 Try.f19 Rows.felschKnownSpec Rows.felschKnownRow = true := joined_mk fk_k0 fac_k1 fac_k2 fk_k3 fk_k4 fk_k5 fk_k6 fk_k7 fk_k8 fk_k9 fk_k10 fk_k11 fk_k12 fk_k13 fk_k14 fk_k15 fk_k16 fk_k17 fk_k18 fk_k19 fk_k20 fk_k21 fk_k22 fk_k23 fac_k24 fac_k25 fac_k26 fac_k27 fk_k28 fk_k29 fk_k30 fk_k31
theorem own : ownKnob Try.prog.godebug = none := by kernel_rfl
theorem laidOut : laidOutB Try.prog = true := fac_k1
set_option maxHeartbeats 800000 in
set_option maxRecDepth 100000 in
theorem fk_lifted (os : Os) (started : os.Started) (H : Type) (enc : TypeId × Value → H) :
    ReturnsInHanded {} Try.checked os 19 .any (Rows.felschKnownSpec.pre6 enc Try.prog Try.f19 Rows.felschKnownRow.domain false) (Rows.felschKnownSpec.post enc Try.prog Try.f19 false true false false) := by
  refine returnsInHanded_of_change (C := Try.checked) own started (by kernel_rfl) Try.func19
    (ChangeSpec.witness6 (enc := enc) (C := Try.checked) false ⟨#[], #[], []⟩ 8 (by kernel_rfl) (by kernel_rfl) (by kernel_rfl) (by kernel_rfl)) ?_
  intro W base args ds gs before hval0 hW _ _
  have hval : ∀ (j : Nat) t v, Try.f19.params[j]? = some t → args[j]? = some v → Value.okWide Try.prog W .any base t v := hval0
  have hW' := hW
  obtain ⟨p, q, hA0, hV, rfl, _, _⟩ := hW
  have hA : DataW.TrodAll enc Try.prog W 0 (fun _ => true) true Try.f19.params.toList args.toList ds p := hA0
  rw [Try.params19] at hA hval
  obtain ⟨hargs0, rfl, rfl⟩ := trodAll_nil hA
  obtain rfl : args = #[] := by cases args; simp_all
  obtain ⟨rfl, rfl⟩ := trodVars_none hV
  clear hA0 hval0
  simp only [List.append_nil] at hW'
  have hlt : ∀ x ∈ ([] : List MemPlace), x.block < W.heap.size := fun x hx => by simp at hx
  refine (felschKnown19_any W).mono fun e W' ⟨he, hb⟩ => ?_
  subst he
  have hk : ∀ {t : TypeId} {v : Value} {d : DataW H} {ps : List MemPlace}, Try.prog.readableRec t = true → t < Try.prog.types.size → DataW.Trod enc Try.prog W 0 (fun _ => true) true t v d ps → (∀ x ∈ ps, x.block < W.heap.size) →
      DataW.Trod enc Try.prog W' 0 (fun b => decide (b < W.heap.size)) true t v d ps := fun hr ht h hs => Below.trod laidOut hr ht h hb hs
  exact ⟨_, rfl, _, _, _, [], _, [], hW', trodAll_mk1 (shut_bool Try.underlying4 _), trodAll_mk0, rfl, hb.frame _, fun h => by cases h⟩
/-- FelschKnown: whatever the input, the law returns true and its arguments read as they did. -/
theorem fk_holds : Rows.FelschKnownSaid :=
  OpenClaim.holds_of_wide 19 Try.f19 rfl rfl rfl rfl rfl rfl rfl ⟨rfl, rfl, rfl, rfl, rfl⟩ rfl rfl rfl rfl rfl fk_named Try.func19 fk_joined
    (of_decide_eq_true (by kernel_rfl)) (by unfold Func.isWrapper; first | (rw [if_pos (by decide +kernel)]; kernel_rfl) | (rw [if_neg (by decide +kernel)]; exact ⟨rfl, rfl⟩))
    (fun os started H enc _ => fk_lifted os started H enc)
#print axioms fk_holds
end Go.Proofs.Ytmpnengjboabcaa
