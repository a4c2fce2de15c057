/- RewriteGenerates: the generators are as many as they must be, lead from 0 to 0 and generate the subgroup, for all numbers; no condition. -/
import Derived.Test.YtmpnengjboabcaaGreatRows
import Derived.ProofKit
import Derived.OpenShut
import Derived.Test.YtmpnengjboabcaaGreatRgCS28
namespace Go.Proofs.YtmpnengjboabcaaGreat
open Go.ChangeShapes Go.WideShapes Go.ChangeAt Go.RowKit
theorem rg_k0 : (Rows.rewriteGeneratesRow.wf (OpenSpec.ofChange Rows.rewriteGeneratesSpec)) = true := by kernel_rfl
theorem rg_k3 : (Tryz.f3.params.all (Tryz.prog.readableRec ·)) = true := by kernel_rfl
theorem rg_k4 : (namedTie Tryz.prog Rows.rewriteGeneratesRow.named Rows.rewriteGeneratesSpec.vars) = true := by kernel_rfl
theorem rg_k5 : ((Rows.rewriteGeneratesRow.stops == [])) = true := by kernel_rfl
theorem rg_k6 : ((Tryz.prog.stops == [])) = true := by kernel_rfl
theorem rg_k7 : ((Rows.rewriteGeneratesRow.knobs == [])) = true := by kernel_rfl
theorem rg_k8 : ((Tryz.prog.stopKnobs == [])) = true := by kernel_rfl
theorem rg_k9 : ((Rows.rewriteGeneratesRow.inPlace == Tryz.prog.inPlace 3)) = true := by kernel_rfl
theorem rg_k10 : ((Rows.rewriteGeneratesRow.unfollowed == Tryz.prog.unfollowed 3)) = true := by kernel_rfl
theorem rg_k11 : ((Rows.rewriteGeneratesRow.recurses == Tryz.prog.recurses 3)) = true := by kernel_rfl
theorem rg_k12 : ((Rows.rewriteGeneratesRow.named == Tryz.prog.varsNamed 3)) = true := by kernel_rfl
theorem rg_k13 : ((Rows.rewriteGeneratesRow.maps == (Tryz.f3.params.toList ++ Rows.rewriteGeneratesSpec.plain.varTypes Tryz.prog).any (Tryz.prog.mapsRec ·))) = true := by kernel_rfl
theorem rg_k14 : ((Rows.rewriteGeneratesRow.ifaces == (Tryz.f3.params.toList ++ Rows.rewriteGeneratesSpec.plain.varTypes Tryz.prog).any (Tryz.prog.ifacesRec ·))) = true := by kernel_rfl
theorem rg_k15 : ((Rows.rewriteGeneratesRow.mapsOut == Tryz.prog.mapsAmong Tryz.f3.resultTypes.toList)) = true := by kernel_rfl
theorem rg_k16 : ((Rows.rewriteGeneratesRow.loops == (Tryz.f3.params.toList ++ Rows.rewriteGeneratesSpec.plain.varTypes Tryz.prog).any (Tryz.prog.loopsFrom ·))) = true := by kernel_rfl
theorem rg_k17 : ((Rows.rewriteGeneratesRow.wideKeys == (Tryz.f3.params.toList ++ Rows.rewriteGeneratesSpec.plain.varTypes Tryz.prog ++ Tryz.f3.resultTypes.toList).any (Tryz.prog.wideKeysFrom ·))) = true := by kernel_rfl
theorem rg_k18 : (Rows.rewriteGeneratesSpec.vars.all (Tryz.prog.varReadable ·)) = true := by kernel_rfl
theorem rg_k19 : (Tryz.f3.resultTypes.all (fun t => Tryz.prog.readableRec t && decide (t < Tryz.prog.types.size))) = true := by kernel_rfl
theorem rg_k20 : ((Rows.rewriteGeneratesRow.ifacesOut == Tryz.f3.resultTypes.toList.any (Tryz.prog.ifacesRec ·))) = true := by kernel_rfl
theorem rg_k21 : ((Rows.rewriteGeneratesRow.loopsOut == Tryz.f3.resultTypes.toList.any (Tryz.prog.loopsFrom ·))) = true := by kernel_rfl
theorem rg_k22 : ((Rows.rewriteGeneratesRow.plainKeys == Tryz.prog.plainKeys)) = true := by kernel_rfl
theorem rg_k23 : (Rows.rewriteGeneratesRow.shortTexts.isNone) = true := by kernel_rfl
theorem rg_k28 : ((Rows.rewriteGeneratesRow.domain.isEmpty && Rows.rewriteGeneratesRow.kinds == [])) = true := by kernel_rfl
theorem rg_k29 : ((Rows.rewriteGeneratesRow.pinned == Rows.rewriteGeneratesRow.pinnedBy)) = true := by kernel_rfl
theorem rg_k30 : ((Rows.rewriteGeneratesRow.veiled == (Tryz.f3.params.toList ++ Rows.rewriteGeneratesSpec.plain.varTypes Tryz.prog ++ Tryz.f3.resultTypes.toList).any (Tryz.prog.veiledRec ·))) = true := by kernel_rfl
theorem rg_k31 : (Rows.rewriteGeneratesRow.veiledFits Tryz.prog Tryz.f3.params.toList (Tryz.f3.params.toList ++ Rows.rewriteGeneratesSpec.plain.varTypes Tryz.prog ++ Tryz.f3.resultTypes.toList)) = true := by kernel_rfl
theorem rg_named : Tryz.pinned.checked.prog.funcNamed Rows.rewriteGeneratesRow.func = some 3 := by kernel_rfl
theorem rg_joined : joinedFacts Tryz.prog 3 Tryz.f3 Rows.rewriteGeneratesSpec Rows.rewriteGeneratesRow = true := joined_mk rg_k0 fac_k1 fac_k2 rg_k3 rg_k4 rg_k5 rg_k6 rg_k7 rg_k8 rg_k9 rg_k10 rg_k11 rg_k12 rg_k13 rg_k14 rg_k15 rg_k16 rg_k17 rg_k18 rg_k19 rg_k20 rg_k21 rg_k22 rg_k23 fac_k24 fac_k25 fac_k26 fac_k27 rg_k28 rg_k29 rg_k30 rg_k31
theorem own : ownKnob Tryz.prog.godebug = none := by kernel_rfl
theorem laidOut : laidOutB Tryz.prog = true := fac_k1
set_option maxHeartbeats 800000 in
set_option maxRecDepth 100000 in
theorem rg_lifted (os : Os) (started : os.Started) (H : Type) (enc : TypeId × Value → H) :
    ReturnsInHanded {} Tryz.checked os 3 .any (Rows.rewriteGeneratesSpec.pre6 enc Tryz.prog Tryz.f3 Rows.rewriteGeneratesRow.domain false) (Rows.rewriteGeneratesSpec.post enc Tryz.prog Tryz.f3 false true false false) := by
  refine returnsInHanded_of_change (C := Tryz.checked) own started (by kernel_rfl) Tryz.func3
    (ChangeSpec.witness6 (enc := enc) (C := Tryz.checked) false ⟨#[], #[.int .i64 0, .slice none 0 0, .slice none 0 0], []⟩ 8 (by kernel_rfl) (by kernel_rfl) (by kernel_rfl) (by kernel_rfl)) ?_
  intro W base args ds gs before hval0 hW _ _
  have hval : ∀ (j : Nat) t v, Tryz.f3.params[j]? = some t → args[j]? = some v → Value.okWide Tryz.prog W .any base t v := hval0
  have hW' := hW
  obtain ⟨p, q, hA0, hV, rfl, _, _⟩ := hW
  have hA : DataW.TrodAll enc Tryz.prog W 0 (fun _ => true) true Tryz.f3.params.toList args.toList ds p := hA0
  rw [Tryz.params3] at hA hval
  obtain ⟨v0, vs0, d0, ds0, p0, q0, hargs0, rfl, rfl, h0, r0⟩ := trodAll_cons hA
  obtain ⟨v1, vs1, d1, ds1, p1, q1, hargs1, rfl, rfl, h1, r1⟩ := trodAll_cons r0
  obtain ⟨v2, vs2, d2, ds2, p2, q2, hargs2, rfl, rfl, h2, r2⟩ := trodAll_cons r1
  obtain ⟨rfl, rfl, rfl⟩ := trodAll_nil r2
  subst hargs1
  subst hargs2
  obtain rfl : args = #[v0, v1, v2] := by cases args; simp_all
  obtain ⟨rfl, rfl⟩ := trodVars_none hV
  clear hA0 hval0
  simp only [List.append_nil] at hW'
  have hlt : ∀ x ∈ p0 ++ (p1 ++ (p2 ++ ([]))), x.block < W.heap.size := fun x hx => hW'.lt x (by simpa using hx)
  have k0 := h0
  obtain ⟨m0, e0, -, -, hw0⟩ := open_int Tryz.underlying3 (hval 0 _ _ rfl rfl) h0
  subst e0
  have b0 := wf_fits hw0
  have k1 := h1
  obtain ⟨A1, n1, c1, rfl⟩ := okWide_slice Tryz.underlying22 (hval 1 22 v1 rfl rfl)
  obtain ⟨f1, hf1⟩ := h1
  obtain ⟨l1, hl1⟩ := ints_of_trod hf1
  have k2 := h2
  obtain ⟨A2, n2, c2, rfl⟩ := okWide_slice Tryz.underlying22 (hval 2 22 v2 rfl rfl)
  obtain ⟨f2, hf2⟩ := h2
  obtain ⟨l2, hl2⟩ := ints_of_trod hf2
  refine (generates3_any W m0 _ _ l1 l2 hl1 hl2 b0).mono fun e W' ⟨he, hb⟩ => ?_
  subst he
  have hk : ∀ {t : TypeId} {v : Value} {d : DataW H} {ps : List MemPlace}, Tryz.prog.readableRec t = true → t < Tryz.prog.types.size → DataW.Trod enc Tryz.prog W 0 (fun _ => true) true t v d ps → (∀ x ∈ ps, x.block < W.heap.size) →
      DataW.Trod enc Tryz.prog W' 0 (fun b => decide (b < W.heap.size)) true t v d ps := fun hr ht h hs => Below.trod laidOut hr ht h hb hs
  exact ⟨_, rfl, _, _, _, [], _, [], hW', trodAll_mk1 (shut_bool Tryz.underlying4 _), (trodAll_cons_mk (hk (by kernel_rfl) (of_decide_eq_true (by kernel_rfl)) k0 (fun x hx => hlt x (by simp [hx]))) (trodAll_cons_mk (hk (by kernel_rfl) (of_decide_eq_true (by kernel_rfl)) k1 (fun x hx => hlt x (by simp [hx]))) (trodAll_cons_mk (hk (by kernel_rfl) (of_decide_eq_true (by kernel_rfl)) k2 (fun x hx => hlt x (by simp [hx]))) trodAll_mk0))), rfl, hb.frame _, fun h => by cases h⟩
theorem rg_holds : Rows.RewriteGeneratesSaid :=
  OpenClaim.holds_of_wide 3 Tryz.f3 rfl rfl rfl rfl rfl rfl rfl ⟨rfl, rfl, rfl, rfl, rfl⟩ rfl rfl rfl rfl rfl rg_named Tryz.func3 rg_joined
    (of_decide_eq_true (by kernel_rfl)) (by unfold Func.isWrapper; first | (rw [if_pos (by decide +kernel)]; kernel_rfl) | (rw [if_neg (by decide +kernel)]; exact ⟨rfl, rfl⟩))
    (fun os started H enc _ => rg_lifted os started H enc)
#print axioms rg_holds
end Go.Proofs.YtmpnengjboabcaaGreat
