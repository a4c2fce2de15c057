/- RewriteOrders: a presentation of a subgroup defines a group of the right order, for all numbers; no condition. -/
import Derived.Test.YtmpnengjboabcaaGreatRows
import Derived.ProofKit
import Derived.OpenShut
import Derived.Test.YtmpnengjboabcaaGreatRoCS29
namespace Go.Proofs.YtmpnengjboabcaaGreat
open Go.ChangeShapes Go.WideShapes Go.ChangeAt Go.RowKit
theorem ro_k0 : (Rows.rewriteOrdersRow.wf (OpenSpec.ofChange Rows.rewriteOrdersSpec)) = true := by kernel_rfl
theorem ro_k3 : (Tryz.f4.params.all (Tryz.prog.readableRec ·)) = true := by kernel_rfl
theorem ro_k4 : (namedTie Tryz.prog Rows.rewriteOrdersRow.named Rows.rewriteOrdersSpec.vars) = true := by kernel_rfl
theorem ro_k5 : ((Rows.rewriteOrdersRow.stops == [])) = true := by kernel_rfl
theorem ro_k6 : ((Tryz.prog.stops == [])) = true := by kernel_rfl
theorem ro_k7 : ((Rows.rewriteOrdersRow.knobs == [])) = true := by kernel_rfl
theorem ro_k8 : ((Tryz.prog.stopKnobs == [])) = true := by kernel_rfl
theorem ro_k9 : ((Rows.rewriteOrdersRow.inPlace == Tryz.prog.inPlace 4)) = true := by kernel_rfl
theorem ro_k10 : ((Rows.rewriteOrdersRow.unfollowed == Tryz.prog.unfollowed 4)) = true := by kernel_rfl
theorem ro_k11 : ((Rows.rewriteOrdersRow.recurses == Tryz.prog.recurses 4)) = true := by kernel_rfl
theorem ro_k12 : ((Rows.rewriteOrdersRow.named == Tryz.prog.varsNamed 4)) = true := by kernel_rfl
theorem ro_k13 : ((Rows.rewriteOrdersRow.maps == (Tryz.f4.params.toList ++ Rows.rewriteOrdersSpec.plain.varTypes Tryz.prog).any (Tryz.prog.mapsRec ·))) = true := by kernel_rfl
theorem ro_k14 : ((Rows.rewriteOrdersRow.ifaces == (Tryz.f4.params.toList ++ Rows.rewriteOrdersSpec.plain.varTypes Tryz.prog).any (Tryz.prog.ifacesRec ·))) = true := by kernel_rfl
theorem ro_k15 : ((Rows.rewriteOrdersRow.mapsOut == Tryz.prog.mapsAmong Tryz.f4.resultTypes.toList)) = true := by kernel_rfl
theorem ro_k16 : ((Rows.rewriteOrdersRow.loops == (Tryz.f4.params.toList ++ Rows.rewriteOrdersSpec.plain.varTypes Tryz.prog).any (Tryz.prog.loopsFrom ·))) = true := by kernel_rfl
theorem ro_k17 : ((Rows.rewriteOrdersRow.wideKeys == (Tryz.f4.params.toList ++ Rows.rewriteOrdersSpec.plain.varTypes Tryz.prog ++ Tryz.f4.resultTypes.toList).any (Tryz.prog.wideKeysFrom ·))) = true := by kernel_rfl
theorem ro_k18 : (Rows.rewriteOrdersSpec.vars.all (Tryz.prog.varReadable ·)) = true := by kernel_rfl
theorem ro_k19 : (Tryz.f4.resultTypes.all (fun t => Tryz.prog.readableRec t && decide (t < Tryz.prog.types.size))) = true := by kernel_rfl
theorem ro_k20 : ((Rows.rewriteOrdersRow.ifacesOut == Tryz.f4.resultTypes.toList.any (Tryz.prog.ifacesRec ·))) = true := by kernel_rfl
theorem ro_k21 : ((Rows.rewriteOrdersRow.loopsOut == Tryz.f4.resultTypes.toList.any (Tryz.prog.loopsFrom ·))) = true := by kernel_rfl
theorem ro_k22 : ((Rows.rewriteOrdersRow.plainKeys == Tryz.prog.plainKeys)) = true := by kernel_rfl
theorem ro_k23 : (Rows.rewriteOrdersRow.shortTexts.isNone) = true := by kernel_rfl
theorem ro_k28 : ((Rows.rewriteOrdersRow.domain.isEmpty && Rows.rewriteOrdersRow.kinds == [])) = true := by kernel_rfl
theorem ro_k29 : ((Rows.rewriteOrdersRow.pinned == Rows.rewriteOrdersRow.pinnedBy)) = true := by kernel_rfl
theorem ro_k30 : ((Rows.rewriteOrdersRow.veiled == (Tryz.f4.params.toList ++ Rows.rewriteOrdersSpec.plain.varTypes Tryz.prog ++ Tryz.f4.resultTypes.toList).any (Tryz.prog.veiledRec ·))) = true := by kernel_rfl
theorem ro_k31 : (Rows.rewriteOrdersRow.veiledFits Tryz.prog Tryz.f4.params.toList (Tryz.f4.params.toList ++ Rows.rewriteOrdersSpec.plain.varTypes Tryz.prog ++ Tryz.f4.resultTypes.toList)) = true := by kernel_rfl
theorem ro_named : Tryz.pinned.checked.prog.funcNamed Rows.rewriteOrdersRow.func = some 4 := by kernel_rfl
theorem ro_joined : joinedFacts Tryz.prog 4 Tryz.f4 Rows.rewriteOrdersSpec Rows.rewriteOrdersRow = true := joined_mk ro_k0 fac_k1 fac_k2 ro_k3 ro_k4 ro_k5 ro_k6 ro_k7 ro_k8 ro_k9 ro_k10 ro_k11 ro_k12 ro_k13 ro_k14 ro_k15 ro_k16 ro_k17 ro_k18 ro_k19 ro_k20 ro_k21 ro_k22 ro_k23 fac_k24 fac_k25 fac_k26 fac_k27 ro_k28 ro_k29 ro_k30 ro_k31
theorem own : ownKnob Tryz.prog.godebug = none := by kernel_rfl
theorem laidOut : laidOutB Tryz.prog = true := fac_k1
set_option maxHeartbeats 800000 in
set_option maxRecDepth 100000 in
theorem ro_lifted (os : Os) (started : os.Started) (H : Type) (enc : TypeId × Value → H) :
    ReturnsInHanded {} Tryz.checked os 4 .any (Rows.rewriteOrdersSpec.pre6 enc Tryz.prog Tryz.f4 Rows.rewriteOrdersRow.domain false) (Rows.rewriteOrdersSpec.post enc Tryz.prog Tryz.f4 false true false false) := by
  refine returnsInHanded_of_change (C := Tryz.checked) own started (by kernel_rfl) Tryz.func4
    (ChangeSpec.witness6 (enc := enc) (C := Tryz.checked) false ⟨#[], #[.int .i64 0, .slice none 0 0], []⟩ 8 (by kernel_rfl) (by kernel_rfl) (by kernel_rfl) (by kernel_rfl)) ?_
  intro W base args ds gs before hval0 hW _ _
  have hval : ∀ (j : Nat) t v, Tryz.f4.params[j]? = some t → args[j]? = some v → Value.okWide Tryz.prog W .any base t v := hval0
  have hW' := hW
  obtain ⟨p, q, hA0, hV, rfl, _, _⟩ := hW
  have hA : DataW.TrodAll enc Tryz.prog W 0 (fun _ => true) true Tryz.f4.params.toList args.toList ds p := hA0
  rw [Tryz.params4] at hA hval
  obtain ⟨v0, vs0, d0, ds0, p0, q0, hargs0, rfl, rfl, h0, r0⟩ := trodAll_cons hA
  obtain ⟨v1, vs1, d1, ds1, p1, q1, hargs1, rfl, rfl, h1, r1⟩ := trodAll_cons r0
  obtain ⟨rfl, rfl, rfl⟩ := trodAll_nil r1
  subst hargs1
  obtain rfl : args = #[v0, v1] := by cases args; simp_all
  obtain ⟨rfl, rfl⟩ := trodVars_none hV
  clear hA0 hval0
  simp only [List.append_nil] at hW'
  have hlt : ∀ x ∈ p0 ++ (p1 ++ ([])), x.block < W.heap.size := fun x hx => hW'.lt x (by simpa using hx)
  have k0 := h0
  obtain ⟨m0, e0, -, -, hw0⟩ := open_int Tryz.underlying3 (hval 0 _ _ rfl rfl) h0
  subst e0
  have b0 := wf_fits hw0
  have k1 := h1
  obtain ⟨A1, n1, c1, rfl⟩ := okWide_slice Tryz.underlying22 (hval 1 22 v1 rfl rfl)
  obtain ⟨f1, hf1⟩ := h1
  obtain ⟨l1, hl1⟩ := ints_of_trod hf1
  refine (orders4_any W m0 _ l1 hl1).mono fun e W' ⟨he, hb⟩ => ?_
  subst he
  have hk : ∀ {t : TypeId} {v : Value} {d : DataW H} {ps : List MemPlace}, Tryz.prog.readableRec t = true → t < Tryz.prog.types.size → DataW.Trod enc Tryz.prog W 0 (fun _ => true) true t v d ps → (∀ x ∈ ps, x.block < W.heap.size) →
      DataW.Trod enc Tryz.prog W' 0 (fun b => decide (b < W.heap.size)) true t v d ps := fun hr ht h hs => Below.trod laidOut hr ht h hb hs
  exact ⟨_, rfl, _, _, _, [], _, [], hW', trodAll_mk1 (shut_bool Tryz.underlying4 _), (trodAll_cons_mk (hk (by kernel_rfl) (of_decide_eq_true (by kernel_rfl)) k0 (fun x hx => hlt x (by simp [hx]))) (trodAll_cons_mk (hk (by kernel_rfl) (of_decide_eq_true (by kernel_rfl)) k1 (fun x hx => hlt x (by simp [hx]))) trodAll_mk0)), rfl, hb.frame _, fun h => by cases h⟩
theorem ro_holds : Rows.RewriteOrdersSaid :=
  OpenClaim.holds_of_wide 4 Tryz.f4 rfl rfl rfl rfl rfl rfl rfl ⟨rfl, rfl, rfl, rfl, rfl⟩ rfl rfl rfl rfl rfl ro_named Tryz.func4 ro_joined
    (of_decide_eq_true (by kernel_rfl)) (by unfold Func.isWrapper; first | (rw [if_pos (by decide +kernel)]; kernel_rfl) | (rw [if_neg (by decide +kernel)]; exact ⟨rfl, rfl⟩))
    (fun os started H enc _ => ro_lifted os started H enc)
#print axioms ro_holds
end Go.Proofs.YtmpnengjboabcaaGreat
