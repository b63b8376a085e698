/- The statement 'ImageReads' of the given program, proved. Conditions: none. -/
import Derived.Test.YtjpppdacamhhfaaRows
import Derived.WalkKit
import Derived.ProofKit
import Derived.OpenShut
import Derived.Test.YtjpppdacamhhfaaFacts
import Derived.Test.YtjpppdacamhhfaaFrame
import Derived.Test.YtjpppdacamhhfaaOpen
import Derived.Test.YtjpppdacamhhfaaLawImR
namespace Go.Proofs.Ytjpppdacamhhfaa.imageReads
open Go.ChangeShapes Go.WideShapes Go.ChangeAt Go.RowKit
set_option linter.unusedVariables false

set_option maxRecDepth 100000 in
theorem lifted (os : Os) (started : os.Started) (H : Type) (enc : TypeId × Value → H) :
    ReturnsInHanded {} Try.checked os 18 .any (Rows.imageReadsSpec.pre6 enc Try.prog Try.f18 Rows.imageReadsRow.domain false) (Rows.imageReadsSpec.post enc Try.prog Try.f18 false true false false) := by
  refine returnsInHanded_of_change (C := Try.checked) fOwn started (by kernel_rfl) Try.func18
    (ChangeSpec.witness6 (enc := enc) (C := Try.checked) false ⟨#[], #[.slice none 0 0], []⟩ 8 (by kernel_rfl) (by kernel_rfl) (by kernel_rfl) (by kernel_rfl)) ?_
  intro W base args ds gs before hval0 hW hcnd _
  have hval : ∀ (j : Nat) t v, Try.f18.params[j]? = some t → args[j]? = some v → Value.okWide Try.prog W .any base t v := hval0
  have hW' := hW
  obtain ⟨p, q, hA0, hV, rfl, hfz, hnd⟩ := hW
  have hA : DataW.TrodAll enc Try.prog W 0 (fun _ => true) true Try.f18.params.toList args.toList ds p := hA0
  rw [Try.params18] at hA hval
  obtain ⟨v0, vs0, d0, ds0, p0, q0, hargs, rfl, rfl, h0, r0⟩ := trodAll_cons hA
  obtain ⟨rfl, rfl, rfl⟩ := trodAll_nil r0
  obtain rfl : args = #[v0] := by cases args; simp_all
  obtain ⟨rfl, rfl⟩ := trodVars_none hV
  obtain ⟨A0, xs0, c0, rfl, cap0, i0, m0, len0⟩ := open_bytes (hval 0 70 v0 rfl rfl) h0
  clear hA0 hval0
  simp only [List.append_nil] at hW'
  refine (imageReads_walk xs0 A0 c0 W m0 cap0 i0 len0).mono fun e W' ⟨he, hg⟩ => ?_
  subst he
  refine ⟨_, rfl, post_of_below (pa := (p0 ++ [])) (pv := []) hW' (fun _ _ _ => (trodAll_cons_mk (shut_bool Try.underlying4 _) trodAll_mk0)) (trodAll_cons_mk (stays_bytes h0 hg (fun x hx => hW'.lt x (by simp [hx]))) trodAll_mk0) rfl (by simp) hg⟩

theorem k1 : Rows.imageReadsRow.wf (OpenSpec.ofChange Rows.imageReadsSpec) = true := by kernel_rfl
theorem k2 : Try.f18.params.all (Try.prog.readableRec ·) = true := by kernel_rfl
theorem k3 : namedTie Try.prog Rows.imageReadsRow.named Rows.imageReadsSpec.vars = true := by kernel_rfl
theorem k4 : (Rows.imageReadsRow.stops == []) = true := by kernel_rfl
theorem k5 : (Rows.imageReadsRow.knobs == []) = true := by kernel_rfl
theorem k6 : (Rows.imageReadsRow.inPlace == Try.prog.inPlace 18) = true := by kernel_rfl
theorem k7 : (Rows.imageReadsRow.unfollowed == Try.prog.unfollowed 18) = true := by kernel_rfl
theorem k8 : (Rows.imageReadsRow.recurses == Try.prog.recurses 18) = true := by kernel_rfl
theorem k9 : (Rows.imageReadsRow.named == Try.prog.varsNamed 18) = true := by kernel_rfl
theorem k10 : (Rows.imageReadsRow.maps == (Try.f18.params.toList ++ Rows.imageReadsSpec.plain.varTypes Try.prog).any (Try.prog.mapsRec ·)) = true := by kernel_rfl
theorem k11 : (Rows.imageReadsRow.ifaces == (Try.f18.params.toList ++ Rows.imageReadsSpec.plain.varTypes Try.prog).any (Try.prog.ifacesRec ·)) = true := by kernel_rfl
theorem k12 : (Rows.imageReadsRow.mapsOut == Try.prog.mapsAmong Try.f18.resultTypes.toList) = true := by kernel_rfl
theorem k13 : (Rows.imageReadsRow.loops == (Try.f18.params.toList ++ Rows.imageReadsSpec.plain.varTypes Try.prog).any (Try.prog.loopsFrom ·)) = true := by kernel_rfl
theorem k14 : (Rows.imageReadsRow.wideKeys == (Try.f18.params.toList ++ Rows.imageReadsSpec.plain.varTypes Try.prog ++ Try.f18.resultTypes.toList).any (Try.prog.wideKeysFrom ·)) = true := by kernel_rfl
theorem k15 : Rows.imageReadsSpec.vars.all (Try.prog.varReadable ·) = true := by kernel_rfl
theorem k16 : Try.f18.resultTypes.all (fun t => Try.prog.readableRec t && decide (t < Try.prog.types.size)) = true := by kernel_rfl
theorem k17 : (Rows.imageReadsRow.ifacesOut == Try.f18.resultTypes.toList.any (Try.prog.ifacesRec ·)) = true := by kernel_rfl
theorem k18 : (Rows.imageReadsRow.loopsOut == Try.f18.resultTypes.toList.any (Try.prog.loopsFrom ·)) = true := by kernel_rfl
theorem k19 : (Rows.imageReadsRow.plainKeys == Try.prog.plainKeys) = true := by rw [fKeys]; rfl
theorem k20 : Rows.imageReadsRow.shortTexts.isNone = true := by kernel_rfl
theorem k21 : (Rows.imageReadsRow.lifted == Try.prog.liftsFinal) = true := by rw [fLifts]; rfl
theorem k22 : (Try.prog.make == some Rows.imageReadsRow.make) = true := by rw [fMake]; rfl
theorem k23 : kindsFit Try.prog Try.f18 Rows.imageReadsRow = true := by kernel_rfl
theorem k24 : (Rows.imageReadsRow.pinned == Rows.imageReadsRow.pinnedBy) = true := by kernel_rfl
theorem k25 : (Rows.imageReadsRow.veiled == (Try.f18.params.toList ++ Rows.imageReadsSpec.plain.varTypes Try.prog ++ Try.f18.resultTypes.toList).any (Try.prog.veiledRec ·)) = true := by kernel_rfl
theorem k26 : Rows.imageReadsRow.veiledFits Try.prog Try.f18.params.toList (Try.f18.params.toList ++ Rows.imageReadsSpec.plain.varTypes Try.prog ++ Try.f18.resultTypes.toList) = true := by kernel_rfl
theorem named_ : Try.prog.funcNamed Rows.imageReadsRow.func = some 18 := by kernel_rfl
theorem there_ : Try.prog.funcs[18]? = some Try.f18 := Try.func18
theorem closed_ : joinedFacts Try.prog 18 Try.f18 Rows.imageReadsSpec Rows.imageReadsRow = true :=
  facts_of fLaid fMaps fStops fKnobs fHeard fEnter k1 k2 k3 k4 k5 k6 k7 k8 k9 k10 k11 k12 k13 k14 k15 k16 k17 k18 k19 k20 k21 k22 k23 k24 k25 k26

theorem inst_ : Try.f18.isInstance Try.prog Rows.imageReadsRow.origin Rows.imageReadsRow.targs := of_decide_eq_true (by kernel_rfl)
theorem wrap_ : Try.f18.isWrapper Try.prog Rows.imageReadsRow.wrapper Rows.imageReadsRow.mainSum := by
  unfold Func.isWrapper
  rw [if_neg (by decide +kernel)]
  exact ⟨rfl, rfl⟩

theorem over : Rows.imageReadsRow.holds Try.pinned (OpenSpec.ofChange Rows.imageReadsSpec) :=
  OpenClaim.holds_of_wide 18 Try.f18 rfl rfl rfl rfl rfl rfl rfl ⟨rfl, rfl, rfl, rfl, rfl⟩ rfl rfl rfl rfl rfl named_ there_ closed_ inst_ wrap_
    (fun os started H enc _ => lifted os started H enc)

theorem proved : Rows.ImageReadsSaid := over

#print axioms proved

end Go.Proofs.Ytjpppdacamhhfaa.imageReads
