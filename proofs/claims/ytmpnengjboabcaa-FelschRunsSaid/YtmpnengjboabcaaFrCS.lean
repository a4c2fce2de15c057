/- FelschRuns: Felsch strategy answers as the reference does, for all presentations, words and limits; no condition. -/
import Derived.Test.YtmpnengjboabcaaRows
import Derived.ProofKit
import Derived.OpenShut
import Derived.Test.YtmpnengjboabcaaFrCS28
namespace Go.Proofs.Ytmpnengjboabcaa
open Go.ChangeShapes Go.WideShapes Go.ChangeAt Go.RowKit
theorem fr_k0 : (Rows.felschRunsRow.wf (OpenSpec.ofChange Rows.felschRunsSpec)) = true := by kernel_rfl
theorem fr_k3 : (Try.f17.params.all (Try.prog.readableRec ·)) = true := by kernel_rfl
theorem fr_k4 : (namedTie Try.prog Rows.felschRunsRow.named Rows.felschRunsSpec.vars) = true := by kernel_rfl
theorem fr_k5 : ((Rows.felschRunsRow.stops == [])) = true := by kernel_rfl
theorem fr_k6 : ((Try.prog.stops == [])) = true := by kernel_rfl
theorem fr_k7 : ((Rows.felschRunsRow.knobs == [])) = true := by kernel_rfl
theorem fr_k8 : ((Try.prog.stopKnobs == [])) = true := by kernel_rfl
theorem fr_k9 : ((Rows.felschRunsRow.inPlace == Try.prog.inPlace 17)) = true := by kernel_rfl
theorem fr_k10 : ((Rows.felschRunsRow.unfollowed == Try.prog.unfollowed 17)) = true := by kernel_rfl
theorem fr_k11 : ((Rows.felschRunsRow.recurses == Try.prog.recurses 17)) = true := by kernel_rfl
theorem fr_k12 : ((Rows.felschRunsRow.named == Try.prog.varsNamed 17)) = true := by kernel_rfl
theorem fr_k13 : ((Rows.felschRunsRow.maps == (Try.f17.params.toList ++ Rows.felschRunsSpec.plain.varTypes Try.prog).any (Try.prog.mapsRec ·))) = true := by kernel_rfl
theorem fr_k14 : ((Rows.felschRunsRow.ifaces == (Try.f17.params.toList ++ Rows.felschRunsSpec.plain.varTypes Try.prog).any (Try.prog.ifacesRec ·))) = true := by kernel_rfl
theorem fr_k15 : ((Rows.felschRunsRow.mapsOut == Try.prog.mapsAmong Try.f17.resultTypes.toList)) = true := by kernel_rfl
theorem fr_k16 : ((Rows.felschRunsRow.loops == (Try.f17.params.toList ++ Rows.felschRunsSpec.plain.varTypes Try.prog).any (Try.prog.loopsFrom ·))) = true := by kernel_rfl
theorem fr_k17 : ((Rows.felschRunsRow.wideKeys == (Try.f17.params.toList ++ Rows.felschRunsSpec.plain.varTypes Try.prog ++ Try.f17.resultTypes.toList).any (Try.prog.wideKeysFrom ·))) = true := by kernel_rfl
theorem fr_k18 : (Rows.felschRunsSpec.vars.all (Try.prog.varReadable ·)) = true := by kernel_rfl
theorem fr_k19 : (Try.f17.resultTypes.all (fun t => Try.prog.readableRec t && decide (t < Try.prog.types.size))) = true := by kernel_rfl
theorem fr_k20 : ((Rows.felschRunsRow.ifacesOut == Try.f17.resultTypes.toList.any (Try.prog.ifacesRec ·))) = true := by kernel_rfl
theorem fr_k21 : ((Rows.felschRunsRow.loopsOut == Try.f17.resultTypes.toList.any (Try.prog.loopsFrom ·))) = true := by kernel_rfl
theorem fr_k22 : ((Rows.felschRunsRow.plainKeys == Try.prog.plainKeys)) = true := by kernel_rfl
theorem fr_k23 : (Rows.felschRunsRow.shortTexts.isNone) = true := by kernel_rfl
theorem fr_k28 : ((Rows.felschRunsRow.domain.isEmpty && Rows.felschRunsRow.kinds == [])) = true := by kernel_rfl
theorem fr_k29 : ((Rows.felschRunsRow.pinned == Rows.felschRunsRow.pinnedBy)) = true := by kernel_rfl
theorem fr_k30 : ((Rows.felschRunsRow.veiled == (Try.f17.params.toList ++ Rows.felschRunsSpec.plain.varTypes Try.prog ++ Try.f17.resultTypes.toList).any (Try.prog.veiledRec ·))) = true := by kernel_rfl
theorem fr_k31 : (Rows.felschRunsRow.veiledFits Try.prog Try.f17.params.toList (Try.f17.params.toList ++ Rows.felschRunsSpec.plain.varTypes Try.prog ++ Try.f17.resultTypes.toList)) = true := by kernel_rfl
theorem fr_named : Try.pinned.checked.prog.funcNamed Rows.felschRunsRow.func = some 17 := by kernel_rfl
theorem fr_joined : joinedFacts Try.prog 17 Try.f17 Rows.felschRunsSpec Rows.felschRunsRow = true := joined_mk fr_k0 fac_k1 fac_k2 fr_k3 fr_k4 fr_k5 fr_k6 fr_k7 fr_k8 fr_k9 fr_k10 fr_k11 fr_k12 fr_k13 fr_k14 fr_k15 fr_k16 fr_k17 fr_k18 fr_k19 fr_k20 fr_k21 fr_k22 fr_k23 fac_k24 fac_k25 fac_k26 fac_k27 fr_k28 fr_k29 fr_k30 fr_k31
theorem own : ownKnob Try.prog.godebug = none := by kernel_rfl
theorem laidOut : laidOutB Try.prog = true := fac_k1
set_option maxHeartbeats 800000 in
set_option maxRecDepth 100000 in
theorem fr_lifted (os : Os) (started : os.Started) (H : Type) (enc : TypeId × Value → H) :
    ReturnsInHanded {} Try.checked os 17 .any (Rows.felschRunsSpec.pre6 enc Try.prog Try.f17 Rows.felschRunsRow.domain false) (Rows.felschRunsSpec.post enc Try.prog Try.f17 false true false false) := by
  refine returnsInHanded_of_change (C := Try.checked) own started (by kernel_rfl) Try.func17
    (ChangeSpec.witness6 (enc := enc) (C := Try.checked) false ⟨#[], #[.agg #[.int .i64 0, .slice none 0 0], .slice none 0 0, .int .i64 0], []⟩ 8 (by kernel_rfl) (by kernel_rfl) (by kernel_rfl) (by kernel_rfl)) ?_
  intro W base args ds gs before hval0 hW _ _
  have hval : ∀ (j : Nat) t v, Try.f17.params[j]? = some t → args[j]? = some v → Value.okWide Try.prog W .any base t v := hval0
  have hW' := hW
  obtain ⟨p, q, hA0, hV, rfl, _, _⟩ := hW
  have hA : DataW.TrodAll enc Try.prog W 0 (fun _ => true) true Try.f17.params.toList args.toList ds p := hA0
  rw [Try.params17] at hA hval
  obtain ⟨v0, vs0, d0, ds0, p0, q0, hargs0, rfl, rfl, h0, r0⟩ := trodAll_cons hA
  obtain ⟨v1, vs1, d1, ds1, p1, q1, hargs1, rfl, rfl, h1, r1⟩ := trodAll_cons r0
  obtain ⟨v2, vs2, d2, ds2, p2, q2, hargs2, rfl, rfl, h2, r2⟩ := trodAll_cons r1
  obtain ⟨rfl, rfl, rfl⟩ := trodAll_nil r2
  subst hargs1
  subst hargs2
  obtain rfl : args = #[v0, v1, v2] := by cases args; simp_all
  obtain ⟨rfl, rfl⟩ := trodVars_none hV
  clear hA0 hval0
  simp only [List.append_nil] at hW'
  have hlt : ∀ x ∈ p0 ++ (p1 ++ (p2 ++ ([]))), x.block < W.heap.size := fun x hx => hW'.lt x (by simpa using hx)
  have k0 := h0
  obtain ⟨m0, a0, l0, rfl, hl0⟩ := pres_of_trod h0
  have k1 := h1
  obtain ⟨A1, n1, c1, rfl⟩ := okWide_slice Try.underlying31 (hval 1 31 v1 rfl rfl)
  obtain ⟨f1, hf1⟩ := h1
  obtain ⟨l1, hl1⟩ := words_of_trod hf1
  have k2 := h2
  obtain ⟨m2, e2, -, -, hw2⟩ := open_int Try.underlying3 (hval 2 _ _ rfl rfl) h2
  subst e2
  have b2 := wf_fits hw2
  refine (felschRuns17_walk W m0 _ _ m2 l0 l1 hl0 hl1).mono fun e W' ⟨he, hb⟩ => ?_
  subst he
  have hk : ∀ {t : TypeId} {v : Value} {d : DataW H} {ps : List MemPlace}, Try.prog.readableRec t = true → t < Try.prog.types.size → DataW.Trod enc Try.prog W 0 (fun _ => true) true t v d ps → (∀ x ∈ ps, x.block < W.heap.size) →
      DataW.Trod enc Try.prog W' 0 (fun b => decide (b < W.heap.size)) true t v d ps := fun hr ht h hs => Below.trod laidOut hr ht h hb hs
  exact ⟨_, rfl, _, _, _, [], _, [], hW', trodAll_mk1 (shut_bool Try.underlying4 _), (trodAll_cons_mk (hk (by kernel_rfl) (of_decide_eq_true (by kernel_rfl)) k0 (fun x hx => hlt x (by simp [hx]))) (trodAll_cons_mk (hk (by kernel_rfl) (of_decide_eq_true (by kernel_rfl)) k1 (fun x hx => hlt x (by simp [hx]))) (trodAll_cons_mk (hk (by kernel_rfl) (of_decide_eq_true (by kernel_rfl)) k2 (fun x hx => hlt x (by simp [hx]))) trodAll_mk0))), rfl, hb.frame _, fun h => by cases h⟩
/-- FelschRuns: whatever the input, the law returns true and its arguments read as they did. -/
theorem fr_holds : Rows.FelschRunsSaid :=
  OpenClaim.holds_of_wide 17 Try.f17 rfl rfl rfl rfl rfl rfl rfl ⟨rfl, rfl, rfl, rfl, rfl⟩ rfl rfl rfl rfl rfl fr_named Try.func17 fr_joined
    (of_decide_eq_true (by kernel_rfl)) (by unfold Func.isWrapper; first | (rw [if_pos (by decide +kernel)]; kernel_rfl) | (rw [if_neg (by decide +kernel)]; exact ⟨rfl, rfl⟩))
    (fun os started H enc _ => fr_lifted os started H enc)
#print axioms fr_holds
end Go.Proofs.Ytmpnengjboabcaa
