/- FelschLooks: the strategy with lookahead answers as the reference does, for all presentations, words and limits; no condition. -/
import Derived.Test.YtmpnengjboabcaaRows
import Derived.ProofKit
import Derived.OpenShut
import Derived.Test.YtmpnengjboabcaaFlCS28
import Derived.Test.YtmpnengjboabcaaFlCS29
namespace Go.Proofs.Ytmpnengjboabcaa
open Go.ChangeShapes Go.WideShapes Go.ChangeAt Go.RowKit
theorem fl_k0 : (Rows.felschLooksRow.wf (OpenSpec.ofChange Rows.felschLooksSpec)) = true := by kernel_rfl
theorem fl_k3 : (Try.f18.params.all (Try.prog.readableRec ·)) = true := by kernel_rfl
theorem fl_k4 : (namedTie Try.prog Rows.felschLooksRow.named Rows.felschLooksSpec.vars) = true := by kernel_rfl
theorem fl_k5 : ((Rows.felschLooksRow.stops == [])) = true := by kernel_rfl
theorem fl_k6 : ((Try.prog.stops == [])) = true := by kernel_rfl
theorem fl_k7 : ((Rows.felschLooksRow.knobs == [])) = true := by kernel_rfl
theorem fl_k8 : ((Try.prog.stopKnobs == [])) = true := by kernel_rfl
theorem fl_k9 : ((Rows.felschLooksRow.inPlace == Try.prog.inPlace 18)) = true := by kernel_rfl
theorem fl_k10 : ((Rows.felschLooksRow.unfollowed == Try.prog.unfollowed 18)) = true := by kernel_rfl
theorem fl_k11 : ((Rows.felschLooksRow.recurses == Try.prog.recurses 18)) = true := by kernel_rfl
theorem fl_k12 : ((Rows.felschLooksRow.named == Try.prog.varsNamed 18)) = true := by kernel_rfl
theorem fl_k13 : ((Rows.felschLooksRow.maps == (Try.f18.params.toList ++ Rows.felschLooksSpec.plain.varTypes Try.prog).any (Try.prog.mapsRec ·))) = true := by kernel_rfl
theorem fl_k14 : ((Rows.felschLooksRow.ifaces == (Try.f18.params.toList ++ Rows.felschLooksSpec.plain.varTypes Try.prog).any (Try.prog.ifacesRec ·))) = true := by kernel_rfl
theorem fl_k15 : ((Rows.felschLooksRow.mapsOut == Try.prog.mapsAmong Try.f18.resultTypes.toList)) = true := by kernel_rfl
theorem fl_k16 : ((Rows.felschLooksRow.loops == (Try.f18.params.toList ++ Rows.felschLooksSpec.plain.varTypes Try.prog).any (Try.prog.loopsFrom ·))) = true := by kernel_rfl
theorem fl_k17 : ((Rows.felschLooksRow.wideKeys == (Try.f18.params.toList ++ Rows.felschLooksSpec.plain.varTypes Try.prog ++ Try.f18.resultTypes.toList).any (Try.prog.wideKeysFrom ·))) = true := by kernel_rfl
theorem fl_k18 : (Rows.felschLooksSpec.vars.all (Try.prog.varReadable ·)) = true := by kernel_rfl
theorem fl_k19 : (Try.f18.resultTypes.all (fun t => Try.prog.readableRec t && decide (t < Try.prog.types.size))) = true := by kernel_rfl
theorem fl_k20 : ((Rows.felschLooksRow.ifacesOut == Try.f18.resultTypes.toList.any (Try.prog.ifacesRec ·))) = true := by kernel_rfl
theorem fl_k21 : ((Rows.felschLooksRow.loopsOut == Try.f18.resultTypes.toList.any (Try.prog.loopsFrom ·))) = true := by kernel_rfl
theorem fl_k22 : ((Rows.felschLooksRow.plainKeys == Try.prog.plainKeys)) = true := by kernel_rfl
theorem fl_k23 : (Rows.felschLooksRow.shortTexts.isNone) = true := by kernel_rfl
theorem fl_k28 : ((Rows.felschLooksRow.domain.isEmpty && Rows.felschLooksRow.kinds == [])) = true := by kernel_rfl
theorem fl_k29 : ((Rows.felschLooksRow.pinned == Rows.felschLooksRow.pinnedBy)) = true := by kernel_rfl
theorem fl_k30 : ((Rows.felschLooksRow.veiled == (Try.f18.params.toList ++ Rows.felschLooksSpec.plain.varTypes Try.prog ++ Try.f18.resultTypes.toList).any (Try.prog.veiledRec ·))) = true := by kernel_rfl
theorem fl_k31 : (Rows.felschLooksRow.veiledFits Try.prog Try.f18.params.toList (Try.f18.params.toList ++ Rows.felschLooksSpec.plain.varTypes Try.prog ++ Try.f18.resultTypes.toList)) = true := by kernel_rfl
theorem fl_named : Try.pinned.checked.prog.funcNamed Rows.felschLooksRow.func = some 18 := by kernel_rfl
theorem fl_joined : joinedFacts Try.prog 18 Try.f18 Rows.felschLooksSpec Rows.felschLooksRow = true := joined_mk fl_k0 fac_k1 fac_k2 fl_k3 fl_k4 fl_k5 fl_k6 fl_k7 fl_k8 fl_k9 fl_k10 fl_k11 fl_k12 fl_k13 fl_k14 fl_k15 fl_k16 fl_k17 fl_k18 fl_k19 fl_k20 fl_k21 fl_k22 fl_k23 fac_k24 fac_k25 fac_k26 fac_k27 fl_k28 fl_k29 fl_k30 fl_k31
theorem own : ownKnob Try.prog.godebug = none := by kernel_rfl
theorem laidOut : laidOutB Try.prog = true := fac_k1
set_option maxHeartbeats 800000 in
set_option maxRecDepth 100000 in
theorem fl_lifted (os : Os) (started : os.Started) (H : Type) (enc : TypeId × Value → H) :
    ReturnsInHanded {} Try.checked os 18 .any (Rows.felschLooksSpec.pre6 enc Try.prog Try.f18 Rows.felschLooksRow.domain false) (Rows.felschLooksSpec.post enc Try.prog Try.f18 false true false false) := by
  refine returnsInHanded_of_change (C := Try.checked) own started (by kernel_rfl) Try.func18
    (ChangeSpec.witness6 (enc := enc) (C := Try.checked) false ⟨#[], #[.agg #[.int .i64 0, .slice none 0 0], .slice none 0 0, .int .i64 0], []⟩ 8 (by kernel_rfl) (by kernel_rfl) (by kernel_rfl) (by kernel_rfl)) ?_
  intro W base args ds gs before hval0 hW _ _
  have hval : ∀ (j : Nat) t v, Try.f18.params[j]? = some t → args[j]? = some v → Value.okWide Try.prog W .any base t v := hval0
  have hW' := hW
  obtain ⟨p, q, hA0, hV, rfl, _, _⟩ := hW
  have hA : DataW.TrodAll enc Try.prog W 0 (fun _ => true) true Try.f18.params.toList args.toList ds p := hA0
  rw [Try.params18] at hA hval
  obtain ⟨v0, vs0, d0, ds0, p0, q0, hargs0, rfl, rfl, h0, r0⟩ := trodAll_cons hA
  obtain ⟨v1, vs1, d1, ds1, p1, q1, hargs1, rfl, rfl, h1, r1⟩ := trodAll_cons r0
  obtain ⟨v2, vs2, d2, ds2, p2, q2, hargs2, rfl, rfl, h2, r2⟩ := trodAll_cons r1
  obtain ⟨rfl, rfl, rfl⟩ := trodAll_nil r2
  subst hargs1
  subst hargs2
  obtain rfl : args = #[v0, v1, v2] := by cases args; simp_all
  obtain ⟨rfl, rfl⟩ := trodVars_none hV
  clear hA0 hval0
  simp only [List.append_nil] at hW'
  have hlt : ∀ x ∈ p0 ++ (p1 ++ (p2 ++ ([]))), x.block < W.heap.size := fun x hx => hW'.lt x (by simpa using hx)
  have k0 := h0
  obtain ⟨m0, a0, l0, rfl, hl0⟩ := pres_of_trod h0
  have k1 := h1
  obtain ⟨A1, n1, c1, rfl⟩ := okWide_slice Try.underlying31 (hval 1 31 v1 rfl rfl)
  obtain ⟨f1, hf1⟩ := h1
  obtain ⟨l1, hl1⟩ := words_of_trod hf1
  have k2 := h2
  obtain ⟨m2, e2, -, -, hw2⟩ := open_int Try.underlying3 (hval 2 _ _ rfl rfl) h2
  subst e2
  have b2 := wf_fits hw2
  refine (felschLooks18_walk W m0 _ _ m2 l0 l1 hl0 hl1).mono fun e W' ⟨he, hb⟩ => ?_
  subst he
  have hk : ∀ {t : TypeId} {v : Value} {d : DataW H} {ps : List MemPlace}, Try.prog.readableRec t = true → t < Try.prog.types.size → DataW.Trod enc Try.prog W 0 (fun _ => true) true t v d ps → (∀ x ∈ ps, x.block < W.heap.size) →
      DataW.Trod enc Try.prog W' 0 (fun b => decide (b < W.heap.size)) true t v d ps := fun hr ht h hs => Below.trod laidOut hr ht h hb hs
  exact ⟨_, rfl, _, _, _, [], _, [], hW', trodAll_mk1 (shut_bool Try.underlying4 _), (trodAll_cons_mk (hk (by kernel_rfl) (of_decide_eq_true (by kernel_rfl)) k0 (fun x hx => hlt x (by simp [hx]))) (trodAll_cons_mk (hk (by kernel_rfl) (of_decide_eq_true (by kernel_rfl)) k1 (fun x hx => hlt x (by simp [hx]))) (trodAll_cons_mk (hk (by kernel_rfl) (of_decide_eq_true (by kernel_rfl)) k2 (fun x hx => hlt x (by simp [hx]))) trodAll_mk0))), rfl, hb.frame _, fun h => by cases h⟩
theorem fl_holds : Rows.FelschLooksSaid :=
  OpenClaim.holds_of_wide 18 Try.f18 rfl rfl rfl rfl rfl rfl rfl ⟨rfl, rfl, rfl, rfl, rfl⟩ rfl rfl rfl rfl rfl fl_named Try.func18 fl_joined
    (of_decide_eq_true (by kernel_rfl)) (by unfold Func.isWrapper; first | (rw [if_pos (by decide +kernel)]; kernel_rfl) | (rw [if_neg (by decide +kernel)]; exact ⟨rfl, rfl⟩))
    (fun os started H enc _ => fl_lifted os started H enc)
#print axioms fl_holds
end Go.Proofs.Ytmpnengjboabcaa
