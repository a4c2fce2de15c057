/- FelschRotations: the words of a letter are the rotations of relators and inverses that begin with it, each once, for all numbers; no condition. -/
import Derived.Test.YtmpnengjboabcaaRows
import Derived.ProofKit
import Derived.OpenShut
import Derived.Test.YtmpnengjboabcaaFtCS27
namespace Go.Proofs.Ytmpnengjboabcaa
open Go.ChangeShapes Go.WideShapes Go.ChangeAt Go.RowKit
theorem ft_k0 : (Rows.felschRotationsRow.wf (OpenSpec.ofChange Rows.felschRotationsSpec)) = true := by kernel_rfl
theorem ft_k3 : (Try.f16.params.all (Try.prog.readableRec ·)) = true := by kernel_rfl
theorem ft_k4 : (namedTie Try.prog Rows.felschRotationsRow.named Rows.felschRotationsSpec.vars) = true := by kernel_rfl
theorem ft_k5 : ((Rows.felschRotationsRow.stops == [])) = true := by kernel_rfl
theorem ft_k6 : ((Try.prog.stops == [])) = true := by kernel_rfl
theorem ft_k7 : ((Rows.felschRotationsRow.knobs == [])) = true := by kernel_rfl
theorem ft_k8 : ((Try.prog.stopKnobs == [])) = true := by kernel_rfl
theorem ft_k9 : ((Rows.felschRotationsRow.inPlace == Try.prog.inPlace 16)) = true := by kernel_rfl
theorem ft_k10 : ((Rows.felschRotationsRow.unfollowed == Try.prog.unfollowed 16)) = true := by kernel_rfl
theorem ft_k11 : ((Rows.felschRotationsRow.recurses == Try.prog.recurses 16)) = true := by kernel_rfl
theorem ft_k12 : ((Rows.felschRotationsRow.named == Try.prog.varsNamed 16)) = true := by kernel_rfl
theorem ft_k13 : ((Rows.felschRotationsRow.maps == (Try.f16.params.toList ++ Rows.felschRotationsSpec.plain.varTypes Try.prog).any (Try.prog.mapsRec ·))) = true := by kernel_rfl
theorem ft_k14 : ((Rows.felschRotationsRow.ifaces == (Try.f16.params.toList ++ Rows.felschRotationsSpec.plain.varTypes Try.prog).any (Try.prog.ifacesRec ·))) = true := by kernel_rfl
theorem ft_k15 : ((Rows.felschRotationsRow.mapsOut == Try.prog.mapsAmong Try.f16.resultTypes.toList)) = true := by kernel_rfl
theorem ft_k16 : ((Rows.felschRotationsRow.loops == (Try.f16.params.toList ++ Rows.felschRotationsSpec.plain.varTypes Try.prog).any (Try.prog.loopsFrom ·))) = true := by kernel_rfl
theorem ft_k17 : ((Rows.felschRotationsRow.wideKeys == (Try.f16.params.toList ++ Rows.felschRotationsSpec.plain.varTypes Try.prog ++ Try.f16.resultTypes.toList).any (Try.prog.wideKeysFrom ·))) = true := by kernel_rfl
theorem ft_k18 : (Rows.felschRotationsSpec.vars.all (Try.prog.varReadable ·)) = true := by kernel_rfl
theorem ft_k19 : (Try.f16.resultTypes.all (fun t => Try.prog.readableRec t && decide (t < Try.prog.types.size))) = true := by kernel_rfl
theorem ft_k20 : ((Rows.felschRotationsRow.ifacesOut == Try.f16.resultTypes.toList.any (Try.prog.ifacesRec ·))) = true := by kernel_rfl
theorem ft_k21 : ((Rows.felschRotationsRow.loopsOut == Try.f16.resultTypes.toList.any (Try.prog.loopsFrom ·))) = true := by kernel_rfl
theorem ft_k22 : ((Rows.felschRotationsRow.plainKeys == Try.prog.plainKeys)) = true := by kernel_rfl
theorem ft_k23 : (Rows.felschRotationsRow.shortTexts.isNone) = true := by kernel_rfl
theorem ft_k28 : ((Rows.felschRotationsRow.domain.isEmpty && Rows.felschRotationsRow.kinds == [])) = true := by kernel_rfl
theorem ft_k29 : ((Rows.felschRotationsRow.pinned == Rows.felschRotationsRow.pinnedBy)) = true := by kernel_rfl
theorem ft_k30 : ((Rows.felschRotationsRow.veiled == (Try.f16.params.toList ++ Rows.felschRotationsSpec.plain.varTypes Try.prog ++ Try.f16.resultTypes.toList).any (Try.prog.veiledRec ·))) = true := by kernel_rfl
theorem ft_k31 : (Rows.felschRotationsRow.veiledFits Try.prog Try.f16.params.toList (Try.f16.params.toList ++ Rows.felschRotationsSpec.plain.varTypes Try.prog ++ Try.f16.resultTypes.toList)) = true := by kernel_rfl
theorem ft_named : Try.pinned.checked.prog.funcNamed Rows.felschRotationsRow.func = some 16 := by kernel_rfl
theorem ft_joined : joinedFacts Try.prog 16 Try.f16 Rows.felschRotationsSpec Rows.felschRotationsRow = true := joined_mk ft_k0 fac_k1 fac_k2 ft_k3 ft_k4 ft_k5 ft_k6 ft_k7 ft_k8 ft_k9 ft_k10 ft_k11 ft_k12 ft_k13 ft_k14 ft_k15 ft_k16 ft_k17 ft_k18 ft_k19 ft_k20 ft_k21 ft_k22 ft_k23 fac_k24 fac_k25 fac_k26 fac_k27 ft_k28 ft_k29 ft_k30 ft_k31
theorem own : ownKnob Try.prog.godebug = none := by kernel_rfl
theorem laidOut : laidOutB Try.prog = true := fac_k1
set_option maxHeartbeats 800000 in
set_option maxRecDepth 100000 in
theorem ft_lifted (os : Os) (started : os.Started) (H : Type) (enc : TypeId × Value → H) :
    ReturnsInHanded {} Try.checked os 16 .any (Rows.felschRotationsSpec.pre6 enc Try.prog Try.f16 Rows.felschRotationsRow.domain false) (Rows.felschRotationsSpec.post enc Try.prog Try.f16 false true false false) := by
  refine returnsInHanded_of_change (C := Try.checked) own started (by kernel_rfl) Try.func16
    (ChangeSpec.witness6 (enc := enc) (C := Try.checked) false ⟨#[], #[.int .i64 0, .slice none 0 0, .int .i64 0], []⟩ 8 (by kernel_rfl) (by kernel_rfl) (by kernel_rfl) (by kernel_rfl)) ?_
  intro W base args ds gs before hval0 hW _ _
  have hval : ∀ (j : Nat) t v, Try.f16.params[j]? = some t → args[j]? = some v → Value.okWide Try.prog W .any base t v := hval0
  have hW' := hW
  obtain ⟨p, q, hA0, hV, rfl, _, _⟩ := hW
  have hA : DataW.TrodAll enc Try.prog W 0 (fun _ => true) true Try.f16.params.toList args.toList ds p := hA0
  rw [Try.params16] at hA hval
  obtain ⟨v0, vs0, d0, ds0, p0, q0, hargs0, rfl, rfl, h0, r0⟩ := trodAll_cons hA
  obtain ⟨v1, vs1, d1, ds1, p1, q1, hargs1, rfl, rfl, h1, r1⟩ := trodAll_cons r0
  obtain ⟨v2, vs2, d2, ds2, p2, q2, hargs2, rfl, rfl, h2, r2⟩ := trodAll_cons r1
  obtain ⟨rfl, rfl, rfl⟩ := trodAll_nil r2
  subst hargs1
  subst hargs2
  obtain rfl : args = #[v0, v1, v2] := by cases args; simp_all
  obtain ⟨rfl, rfl⟩ := trodVars_none hV
  clear hA0 hval0
  simp only [List.append_nil] at hW'
  have hlt : ∀ x ∈ p0 ++ (p1 ++ (p2 ++ ([]))), x.block < W.heap.size := fun x hx => hW'.lt x (by simpa using hx)
  have k0 := h0
  obtain ⟨m0, e0, -, -, hw0⟩ := open_int Try.underlying3 (hval 0 _ _ rfl rfl) h0
  subst e0
  have b0 := wf_fits hw0
  have k1 := h1
  obtain ⟨A1, n1, c1, rfl⟩ := okWide_slice Try.underlying24 (hval 1 24 v1 rfl rfl)
  obtain ⟨f1, hf1⟩ := h1
  obtain ⟨l1, hl1⟩ := ints_of_trod hf1
  have k2 := h2
  obtain ⟨m2, e2, -, -, hw2⟩ := open_int Try.underlying3 (hval 2 _ _ rfl rfl) h2
  subst e2
  have b2 := wf_fits hw2
  refine (felschRotations16_any W m0 _ l1 m2 hl1 b0).mono fun e W' ⟨he, hb⟩ => ?_
  subst he
  have hk : ∀ {t : TypeId} {v : Value} {d : DataW H} {ps : List MemPlace}, Try.prog.readableRec t = true → t < Try.prog.types.size → DataW.Trod enc Try.prog W 0 (fun _ => true) true t v d ps → (∀ x ∈ ps, x.block < W.heap.size) →
      DataW.Trod enc Try.prog W' 0 (fun b => decide (b < W.heap.size)) true t v d ps := fun hr ht h hs => Below.trod laidOut hr ht h hb hs
  exact ⟨_, rfl, _, _, _, [], _, [], hW', trodAll_mk1 (shut_bool Try.underlying4 _), (trodAll_cons_mk (hk (by kernel_rfl) (of_decide_eq_true (by kernel_rfl)) k0 (fun x hx => hlt x (by simp [hx]))) (trodAll_cons_mk (hk (by kernel_rfl) (of_decide_eq_true (by kernel_rfl)) k1 (fun x hx => hlt x (by simp [hx]))) (trodAll_cons_mk (hk (by kernel_rfl) (of_decide_eq_true (by kernel_rfl)) k2 (fun x hx => hlt x (by simp [hx]))) trodAll_mk0))), rfl, hb.frame _, fun h => by cases h⟩
theorem ft_holds : Rows.FelschRotationsSaid :=
  OpenClaim.holds_of_wide 16 Try.f16 rfl rfl rfl rfl rfl rfl rfl ⟨rfl, rfl, rfl, rfl, rfl⟩ rfl rfl rfl rfl rfl ft_named Try.func16 ft_joined
    (of_decide_eq_true (by kernel_rfl)) (by unfold Func.isWrapper; first | (rw [if_pos (by decide +kernel)]; kernel_rfl) | (rw [if_neg (by decide +kernel)]; exact ⟨rfl, rfl⟩))
    (fun os started H enc _ => ft_lifted os started H enc)
#print axioms ft_holds
end Go.Proofs.Ytmpnengjboabcaa
