/- TopPresent: presentations of subgroups define groups of the right order, for all numbers; no condition. -/
import Derived.Test.YtmpnengjboabcaaRows
import Derived.ProofKit
import Derived.OpenShut
import Derived.Test.YtmpnengjboabcaaTpCS22
namespace Go.Proofs.Ytmpnengjboabcaa
open Go.ChangeShapes Go.WideShapes Go.ChangeAt Go.RowKit
theorem tp_k0 : (Rows.topPresentRow.wf (OpenSpec.ofChange Rows.topPresentSpec)) = true := by kernel_rfl
theorem tp_k3 : (Try.f14.params.all (Try.prog.readableRec ·)) = true := by kernel_rfl
theorem tp_k4 : (namedTie Try.prog Rows.topPresentRow.named Rows.topPresentSpec.vars) = true := by kernel_rfl
theorem tp_k5 : ((Rows.topPresentRow.stops == [])) = true := by kernel_rfl
theorem tp_k6 : ((Try.prog.stops == [])) = true := by kernel_rfl
theorem tp_k7 : ((Rows.topPresentRow.knobs == [])) = true := by kernel_rfl
theorem tp_k8 : ((Try.prog.stopKnobs == [])) = true := by kernel_rfl
theorem tp_k9 : ((Rows.topPresentRow.inPlace == Try.prog.inPlace 14)) = true := by kernel_rfl
theorem tp_k10 : ((Rows.topPresentRow.unfollowed == Try.prog.unfollowed 14)) = true := by kernel_rfl
theorem tp_k11 : ((Rows.topPresentRow.recurses == Try.prog.recurses 14)) = true := by kernel_rfl
theorem tp_k12 : ((Rows.topPresentRow.named == Try.prog.varsNamed 14)) = true := by kernel_rfl
theorem tp_k13 : ((Rows.topPresentRow.maps == (Try.f14.params.toList ++ Rows.topPresentSpec.plain.varTypes Try.prog).any (Try.prog.mapsRec ·))) = true := by kernel_rfl
theorem tp_k14 : ((Rows.topPresentRow.ifaces == (Try.f14.params.toList ++ Rows.topPresentSpec.plain.varTypes Try.prog).any (Try.prog.ifacesRec ·))) = true := by kernel_rfl
theorem tp_k15 : ((Rows.topPresentRow.mapsOut == Try.prog.mapsAmong Try.f14.resultTypes.toList)) = true := by kernel_rfl
theorem tp_k16 : ((Rows.topPresentRow.loops == (Try.f14.params.toList ++ Rows.topPresentSpec.plain.varTypes Try.prog).any (Try.prog.loopsFrom ·))) = true := by kernel_rfl
theorem tp_k17 : ((Rows.topPresentRow.wideKeys == (Try.f14.params.toList ++ Rows.topPresentSpec.plain.varTypes Try.prog ++ Try.f14.resultTypes.toList).any (Try.prog.wideKeysFrom ·))) = true := by kernel_rfl
theorem tp_k18 : (Rows.topPresentSpec.vars.all (Try.prog.varReadable ·)) = true := by kernel_rfl
theorem tp_k19 : (Try.f14.resultTypes.all (fun t => Try.prog.readableRec t && decide (t < Try.prog.types.size))) = true := by kernel_rfl
theorem tp_k20 : ((Rows.topPresentRow.ifacesOut == Try.f14.resultTypes.toList.any (Try.prog.ifacesRec ·))) = true := by kernel_rfl
theorem tp_k21 : ((Rows.topPresentRow.loopsOut == Try.f14.resultTypes.toList.any (Try.prog.loopsFrom ·))) = true := by kernel_rfl
theorem tp_k22 : ((Rows.topPresentRow.plainKeys == Try.prog.plainKeys)) = true := by kernel_rfl
theorem tp_k23 : (Rows.topPresentRow.shortTexts.isNone) = true := by kernel_rfl
theorem tp_k28 : ((Rows.topPresentRow.domain.isEmpty && Rows.topPresentRow.kinds == [])) = true := by kernel_rfl
theorem tp_k29 : ((Rows.topPresentRow.pinned == Rows.topPresentRow.pinnedBy)) = true := by kernel_rfl
theorem tp_k30 : ((Rows.topPresentRow.veiled == (Try.f14.params.toList ++ Rows.topPresentSpec.plain.varTypes Try.prog ++ Try.f14.resultTypes.toList).any (Try.prog.veiledRec ·))) = true := by kernel_rfl
theorem tp_k31 : (Rows.topPresentRow.veiledFits Try.prog Try.f14.params.toList (Try.f14.params.toList ++ Rows.topPresentSpec.plain.varTypes Try.prog ++ Try.f14.resultTypes.toList)) = true := by kernel_rfl
theorem tp_named : Try.pinned.checked.prog.funcNamed Rows.topPresentRow.func = some 14 := by kernel_rfl
theorem tp_joined : joinedFacts Try.prog 14 Try.f14 Rows.topPresentSpec Rows.topPresentRow = true := joined_mk tp_k0 fac_k1 fac_k2 tp_k3 tp_k4 tp_k5 tp_k6 tp_k7 tp_k8 tp_k9 tp_k10 tp_k11 tp_k12 tp_k13 tp_k14 tp_k15 tp_k16 tp_k17 tp_k18 tp_k19 tp_k20 tp_k21 tp_k22 tp_k23 fac_k24 fac_k25 fac_k26 fac_k27 tp_k28 tp_k29 tp_k30 tp_k31
theorem own : ownKnob Try.prog.godebug = none := by kernel_rfl
theorem laidOut : laidOutB Try.prog = true := fac_k1
set_option maxHeartbeats 800000 in
set_option maxRecDepth 100000 in
theorem tp_lifted (os : Os) (started : os.Started) (H : Type) (enc : TypeId × Value → H) :
    ReturnsInHanded {} Try.checked os 14 .any (Rows.topPresentSpec.pre6 enc Try.prog Try.f14 Rows.topPresentRow.domain false) (Rows.topPresentSpec.post enc Try.prog Try.f14 false true false false) := by
  refine returnsInHanded_of_change (C := Try.checked) own started (by kernel_rfl) Try.func14
    (ChangeSpec.witness6 (enc := enc) (C := Try.checked) false ⟨#[], #[.int .i64 0, .slice none 0 0], []⟩ 8 (by kernel_rfl) (by kernel_rfl) (by kernel_rfl) (by kernel_rfl)) ?_
  intro W base args ds gs before hval0 hW _ _
  have hval : ∀ (j : Nat) t v, Try.f14.params[j]? = some t → args[j]? = some v → Value.okWide Try.prog W .any base t v := hval0
  have hW' := hW
  obtain ⟨p, q, hA0, hV, rfl, _, _⟩ := hW
  have hA : DataW.TrodAll enc Try.prog W 0 (fun _ => true) true Try.f14.params.toList args.toList ds p := hA0
  rw [Try.params14] at hA hval
  obtain ⟨v0, vs0, d0, ds0, p0, q0, hargs0, rfl, rfl, h0, r0⟩ := trodAll_cons hA
  obtain ⟨v1, vs1, d1, ds1, p1, q1, hargs1, rfl, rfl, h1, r1⟩ := trodAll_cons r0
  obtain ⟨rfl, rfl, rfl⟩ := trodAll_nil r1
  subst hargs1
  obtain rfl : args = #[v0, v1] := by cases args; simp_all
  obtain ⟨rfl, rfl⟩ := trodVars_none hV
  clear hA0 hval0
  simp only [List.append_nil] at hW'
  have hlt : ∀ x ∈ p0 ++ (p1 ++ ([])), x.block < W.heap.size := fun x hx => hW'.lt x (by simpa using hx)
  have k0 := h0
  obtain ⟨m0, e0, -, -, hw0⟩ := open_int Try.underlying3 (hval 0 _ _ rfl rfl) h0
  subst e0
  have b0 := wf_fits hw0
  have k1 := h1
  obtain ⟨A1, n1, c1, rfl⟩ := okWide_slice Try.underlying24 (hval 1 24 v1 rfl rfl)
  obtain ⟨f1, hf1⟩ := h1
  obtain ⟨l1, hl1⟩ := ints_of_trod hf1
  refine (present14_any W m0 _ l1 hl1).mono fun e W' ⟨he, hb⟩ => ?_
  subst he
  have hk : ∀ {t : TypeId} {v : Value} {d : DataW H} {ps : List MemPlace}, Try.prog.readableRec t = true → t < Try.prog.types.size → DataW.Trod enc Try.prog W 0 (fun _ => true) true t v d ps → (∀ x ∈ ps, x.block < W.heap.size) →
      DataW.Trod enc Try.prog W' 0 (fun b => decide (b < W.heap.size)) true t v d ps := fun hr ht h hs => Below.trod laidOut hr ht h hb hs
  exact ⟨_, rfl, _, _, _, [], _, [], hW', trodAll_mk1 (shut_bool Try.underlying4 _), (trodAll_cons_mk (hk (by kernel_rfl) (of_decide_eq_true (by kernel_rfl)) k0 (fun x hx => hlt x (by simp [hx]))) (trodAll_cons_mk (hk (by kernel_rfl) (of_decide_eq_true (by kernel_rfl)) k1 (fun x hx => hlt x (by simp [hx]))) trodAll_mk0)), rfl, hb.frame _, fun h => by cases h⟩
/-- TopPresent: whatever the input, the law returns true and its arguments read as they did. -/
theorem tp_holds : Rows.TopPresentSaid :=
  OpenClaim.holds_of_wide 14 Try.f14 rfl rfl rfl rfl rfl rfl rfl ⟨rfl, rfl, rfl, rfl, rfl⟩ rfl rfl rfl rfl rfl tp_named Try.func14 tp_joined
    (of_decide_eq_true (by kernel_rfl)) (by unfold Func.isWrapper; first | (rw [if_pos (by decide +kernel)]; kernel_rfl) | (rw [if_neg (by decide +kernel)]; exact ⟨rfl, rfl⟩))
    (fun os started H enc _ => tp_lifted os started H enc)
#print axioms tp_holds
end Go.Proofs.Ytmpnengjboabcaa
