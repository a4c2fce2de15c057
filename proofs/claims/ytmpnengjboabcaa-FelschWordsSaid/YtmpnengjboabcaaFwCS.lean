/- FelschWords: a letter has the words that the reference gives, for all presentations and letters; no condition. -/
import Derived.Test.YtmpnengjboabcaaRows
import Derived.ProofKit
import Derived.OpenShut
import Derived.Test.YtmpnengjboabcaaFwCS22
namespace Go.Proofs.Ytmpnengjboabcaa
open Go.ChangeShapes Go.WideShapes Go.ChangeAt Go.RowKit
theorem fw_k0 : (Rows.felschWordsRow.wf (OpenSpec.ofChange Rows.felschWordsSpec)) = true := by kernel_rfl
theorem fw_k3 : (Try.f15.params.all (Try.prog.readableRec ·)) = true := by kernel_rfl
theorem fw_k4 : (namedTie Try.prog Rows.felschWordsRow.named Rows.felschWordsSpec.vars) = true := by kernel_rfl
theorem fw_k5 : ((Rows.felschWordsRow.stops == [])) = true := by kernel_rfl
theorem fw_k6 : ((Try.prog.stops == [])) = true := by kernel_rfl
theorem fw_k7 : ((Rows.felschWordsRow.knobs == [])) = true := by kernel_rfl
theorem fw_k8 : ((Try.prog.stopKnobs == [])) = true := by kernel_rfl
theorem fw_k9 : ((Rows.felschWordsRow.inPlace == Try.prog.inPlace 15)) = true := by kernel_rfl
theorem fw_k10 : ((Rows.felschWordsRow.unfollowed == Try.prog.unfollowed 15)) = true := by kernel_rfl
theorem fw_k11 : ((Rows.felschWordsRow.recurses == Try.prog.recurses 15)) = true := by kernel_rfl
theorem fw_k12 : ((Rows.felschWordsRow.named == Try.prog.varsNamed 15)) = true := by kernel_rfl
theorem fw_k13 : ((Rows.felschWordsRow.maps == (Try.f15.params.toList ++ Rows.felschWordsSpec.plain.varTypes Try.prog).any (Try.prog.mapsRec ·))) = true := by kernel_rfl
theorem fw_k14 : ((Rows.felschWordsRow.ifaces == (Try.f15.params.toList ++ Rows.felschWordsSpec.plain.varTypes Try.prog).any (Try.prog.ifacesRec ·))) = true := by kernel_rfl
theorem fw_k15 : ((Rows.felschWordsRow.mapsOut == Try.prog.mapsAmong Try.f15.resultTypes.toList)) = true := by kernel_rfl
theorem fw_k16 : ((Rows.felschWordsRow.loops == (Try.f15.params.toList ++ Rows.felschWordsSpec.plain.varTypes Try.prog).any (Try.prog.loopsFrom ·))) = true := by kernel_rfl
theorem fw_k17 : ((Rows.felschWordsRow.wideKeys == (Try.f15.params.toList ++ Rows.felschWordsSpec.plain.varTypes Try.prog ++ Try.f15.resultTypes.toList).any (Try.prog.wideKeysFrom ·))) = true := by kernel_rfl
theorem fw_k18 : (Rows.felschWordsSpec.vars.all (Try.prog.varReadable ·)) = true := by kernel_rfl
theorem fw_k19 : (Try.f15.resultTypes.all (fun t => Try.prog.readableRec t && decide (t < Try.prog.types.size))) = true := by kernel_rfl
theorem fw_k20 : ((Rows.felschWordsRow.ifacesOut == Try.f15.resultTypes.toList.any (Try.prog.ifacesRec ·))) = true := by kernel_rfl
theorem fw_k21 : ((Rows.felschWordsRow.loopsOut == Try.f15.resultTypes.toList.any (Try.prog.loopsFrom ·))) = true := by kernel_rfl
theorem fw_k22 : ((Rows.felschWordsRow.plainKeys == Try.prog.plainKeys)) = true := by kernel_rfl
theorem fw_k23 : (Rows.felschWordsRow.shortTexts.isNone) = true := by kernel_rfl
theorem fw_k28 : ((Rows.felschWordsRow.domain.isEmpty && Rows.felschWordsRow.kinds == [])) = true := by kernel_rfl
theorem fw_k29 : ((Rows.felschWordsRow.pinned == Rows.felschWordsRow.pinnedBy)) = true := by kernel_rfl
theorem fw_k30 : ((Rows.felschWordsRow.veiled == (Try.f15.params.toList ++ Rows.felschWordsSpec.plain.varTypes Try.prog ++ Try.f15.resultTypes.toList).any (Try.prog.veiledRec ·))) = true := by kernel_rfl
theorem fw_k31 : (Rows.felschWordsRow.veiledFits Try.prog Try.f15.params.toList (Try.f15.params.toList ++ Rows.felschWordsSpec.plain.varTypes Try.prog ++ Try.f15.resultTypes.toList)) = true := by kernel_rfl
theorem fw_named : Try.pinned.checked.prog.funcNamed Rows.felschWordsRow.func = some 15 := by kernel_rfl
theorem fw_joined : joinedFacts Try.prog 15 Try.f15 Rows.felschWordsSpec Rows.felschWordsRow = true := joined_mk fw_k0 fac_k1 fac_k2 fw_k3 fw_k4 fw_k5 fw_k6 fw_k7 fw_k8 fw_k9 fw_k10 fw_k11 fw_k12 fw_k13 fw_k14 fw_k15 fw_k16 fw_k17 fw_k18 fw_k19 fw_k20 fw_k21 fw_k22 fw_k23 fac_k24 fac_k25 fac_k26 fac_k27 fw_k28 fw_k29 fw_k30 fw_k31
theorem own : ownKnob Try.prog.godebug = none := by kernel_rfl
theorem laidOut : laidOutB Try.prog = true := fac_k1
set_option maxHeartbeats 800000 in
set_option maxRecDepth 100000 in
theorem fw_lifted (os : Os) (started : os.Started) (H : Type) (enc : TypeId × Value → H) :
    ReturnsInHanded {} Try.checked os 15 .any (Rows.felschWordsSpec.pre6 enc Try.prog Try.f15 Rows.felschWordsRow.domain false) (Rows.felschWordsSpec.post enc Try.prog Try.f15 false true false false) := by
  refine returnsInHanded_of_change (C := Try.checked) own started (by kernel_rfl) Try.func15
    (ChangeSpec.witness6 (enc := enc) (C := Try.checked) false ⟨#[], #[.agg #[.int .i64 0, .slice none 0 0], .int .i64 0], []⟩ 8 (by kernel_rfl) (by kernel_rfl) (by kernel_rfl) (by kernel_rfl)) ?_
  intro W base args ds gs before hval0 hW _ _
  have hval : ∀ (j : Nat) t v, Try.f15.params[j]? = some t → args[j]? = some v → Value.okWide Try.prog W .any base t v := hval0
  have hW' := hW
  obtain ⟨p, q, hA0, hV, rfl, _, _⟩ := hW
  have hA : DataW.TrodAll enc Try.prog W 0 (fun _ => true) true Try.f15.params.toList args.toList ds p := hA0
  rw [Try.params15] at hA hval
  obtain ⟨v0, vs0, d0, ds0, p0, q0, hargs0, rfl, rfl, h0, r0⟩ := trodAll_cons hA
  obtain ⟨v1, vs1, d1, ds1, p1, q1, hargs1, rfl, rfl, h1, r1⟩ := trodAll_cons r0
  obtain ⟨rfl, rfl, rfl⟩ := trodAll_nil r1
  subst hargs1
  obtain rfl : args = #[v0, v1] := by cases args; simp_all
  obtain ⟨rfl, rfl⟩ := trodVars_none hV
  clear hA0 hval0
  simp only [List.append_nil] at hW'
  have hlt : ∀ x ∈ p0 ++ (p1 ++ ([])), x.block < W.heap.size := fun x hx => hW'.lt x (by simpa using hx)
  have k0 := h0
  obtain ⟨m0, a0, l0, rfl, hl0⟩ := pres_of_trod h0
  have k1 := h1
  obtain ⟨m1, e1, -, -, hw1⟩ := open_int Try.underlying3 (hval 1 _ _ rfl rfl) h1
  subst e1
  have b1 := wf_fits hw1
  refine (felschWords15_walk W m0 _ m1 l0 hl0 b1).mono fun e W' ⟨he, hb⟩ => ?_
  subst he
  have hk : ∀ {t : TypeId} {v : Value} {d : DataW H} {ps : List MemPlace}, Try.prog.readableRec t = true → t < Try.prog.types.size → DataW.Trod enc Try.prog W 0 (fun _ => true) true t v d ps → (∀ x ∈ ps, x.block < W.heap.size) →
      DataW.Trod enc Try.prog W' 0 (fun b => decide (b < W.heap.size)) true t v d ps := fun hr ht h hs => Below.trod laidOut hr ht h hb hs
  exact ⟨_, rfl, _, _, _, [], _, [], hW', trodAll_mk1 (shut_bool Try.underlying4 _), (trodAll_cons_mk (hk (by kernel_rfl) (of_decide_eq_true (by kernel_rfl)) k0 (fun x hx => hlt x (by simp [hx]))) (trodAll_cons_mk (hk (by kernel_rfl) (of_decide_eq_true (by kernel_rfl)) k1 (fun x hx => hlt x (by simp [hx]))) trodAll_mk0)), rfl, hb.frame _, fun h => by cases h⟩
/-- FelschWords: whatever the input, the law returns true and its arguments read as they did. -/
theorem fw_holds : Rows.FelschWordsSaid :=
  OpenClaim.holds_of_wide 15 Try.f15 rfl rfl rfl rfl rfl rfl rfl ⟨rfl, rfl, rfl, rfl, rfl⟩ rfl rfl rfl rfl rfl fw_named Try.func15 fw_joined
    (of_decide_eq_true (by kernel_rfl)) (by unfold Func.isWrapper; first | (rw [if_pos (by decide +kernel)]; kernel_rfl) | (rw [if_neg (by decide +kernel)]; exact ⟨rfl, rfl⟩))
    (fun os started H enc _ => fw_lifted os started H enc)
#print axioms fw_holds
end Go.Proofs.Ytmpnengjboabcaa
