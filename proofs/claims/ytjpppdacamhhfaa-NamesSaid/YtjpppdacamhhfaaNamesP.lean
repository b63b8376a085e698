/- The statement 'Names' of the given program, proved. Conditions: none. -/
import Derived.Test.YtjpppdacamhhfaaRows
import Derived.WalkKit
import Derived.ProofKit
import Derived.OpenShut
import Derived.Test.YtjpppdacamhhfaaFacts
import Derived.Test.YtjpppdacamhhfaaFrame
import Derived.Test.YtjpppdacamhhfaaLawNames
namespace Go.Proofs.Ytjpppdacamhhfaa.names
open Go.ChangeShapes Go.WideShapes Go.ChangeAt Go.RowKit
set_option linter.unusedVariables false

theorem walk  (w : World) :
    Calls Try.prog 3 #[] w fun e w' => e = .returned (.bool true) ∧ Below w.heap.size w w' := by
  exact names_walk w

set_option maxRecDepth 100000 in
theorem lifted (os : Os) (started : os.Started) (H : Type) (enc : TypeId × Value → H) :
    ReturnsInHanded {} Try.checked os 3 .any (Rows.namesSpec.pre6 enc Try.prog Try.f3 Rows.namesRow.domain false) (Rows.namesSpec.post enc Try.prog Try.f3 false true false false) := by
  refine returnsInHanded_of_change (C := Try.checked) fOwn started (by kernel_rfl) Try.func3
    (ChangeSpec.witness6 (enc := enc) (C := Try.checked) false ⟨#[], #[], []⟩ 8 (by kernel_rfl) (by kernel_rfl) (by kernel_rfl) (by kernel_rfl)) ?_
  intro W base args ds gs before hval0 hW hcnd _
  have hval : ∀ (j : Nat) t v, Try.f3.params[j]? = some t → args[j]? = some v → Value.okWide Try.prog W .any base t v := hval0
  have hW' := hW
  obtain ⟨p, q, hA0, hV, rfl, hfz, hnd⟩ := hW
  have hA : DataW.TrodAll enc Try.prog W 0 (fun _ => true) true Try.f3.params.toList args.toList ds p := hA0
  rw [Try.params3] at hA hval
  obtain ⟨rfl, rfl, rfl⟩ := trodAll_none hA
  obtain ⟨rfl, rfl⟩ := trodVars_none hV
  clear hA0 hval0
  simp only [List.append_nil] at hW'
  refine (walk  W).mono fun e W' ⟨he, hg⟩ => ?_
  subst he
  exact ⟨_, rfl, post_of_below (pa := []) (pv := []) hW' (fun _ _ _ => (trodAll_cons_mk (shut_bool Try.underlying4 _) trodAll_mk0)) rfl rfl rfl hg⟩

theorem k1 : Rows.namesRow.wf (OpenSpec.ofChange Rows.namesSpec) = true := by kernel_rfl
theorem k2 : Try.f3.params.all (Try.prog.readableRec ·) = true := by kernel_rfl
theorem k3 : namedTie Try.prog Rows.namesRow.named Rows.namesSpec.vars = true := by kernel_rfl
theorem k4 : (Rows.namesRow.stops == []) = true := by kernel_rfl
theorem k5 : (Rows.namesRow.knobs == []) = true := by kernel_rfl
theorem k6 : (Rows.namesRow.inPlace == Try.prog.inPlace 3) = true := by kernel_rfl
theorem k7 : (Rows.namesRow.unfollowed == Try.prog.unfollowed 3) = true := by kernel_rfl
theorem k8 : (Rows.namesRow.recurses == Try.prog.recurses 3) = true := by kernel_rfl
theorem k9 : (Rows.namesRow.named == Try.prog.varsNamed 3) = true := by kernel_rfl
theorem k10 : (Rows.namesRow.maps == (Try.f3.params.toList ++ Rows.namesSpec.plain.varTypes Try.prog).any (Try.prog.mapsRec ·)) = true := by kernel_rfl
theorem k11 : (Rows.namesRow.ifaces == (Try.f3.params.toList ++ Rows.namesSpec.plain.varTypes Try.prog).any (Try.prog.ifacesRec ·)) = true := by kernel_rfl
theorem k12 : (Rows.namesRow.mapsOut == Try.prog.mapsAmong Try.f3.resultTypes.toList) = true := by kernel_rfl
theorem k13 : (Rows.namesRow.loops == (Try.f3.params.toList ++ Rows.namesSpec.plain.varTypes Try.prog).any (Try.prog.loopsFrom ·)) = true := by kernel_rfl
theorem k14 : (Rows.namesRow.wideKeys == (Try.f3.params.toList ++ Rows.namesSpec.plain.varTypes Try.prog ++ Try.f3.resultTypes.toList).any (Try.prog.wideKeysFrom ·)) = true := by kernel_rfl
theorem k15 : Rows.namesSpec.vars.all (Try.prog.varReadable ·) = true := by kernel_rfl
theorem k16 : Try.f3.resultTypes.all (fun t => Try.prog.readableRec t && decide (t < Try.prog.types.size)) = true := by kernel_rfl
theorem k17 : (Rows.namesRow.ifacesOut == Try.f3.resultTypes.toList.any (Try.prog.ifacesRec ·)) = true := by kernel_rfl
theorem k18 : (Rows.namesRow.loopsOut == Try.f3.resultTypes.toList.any (Try.prog.loopsFrom ·)) = true := by kernel_rfl
theorem k19 : (Rows.namesRow.plainKeys == Try.prog.plainKeys) = true := by rw [fKeys]; rfl
theorem k20 : Rows.namesRow.shortTexts.isNone = true := by kernel_rfl
theorem k21 : (Rows.namesRow.lifted == Try.prog.liftsFinal) = true := by rw [fLifts]; rfl
theorem k22 : (Try.prog.make == some Rows.namesRow.make) = true := by rw [fMake]; rfl
theorem k23 : kindsFit Try.prog Try.f3 Rows.namesRow = true := by kernel_rfl
theorem k24 : (Rows.namesRow.pinned == Rows.namesRow.pinnedBy) = true := by kernel_rfl
theorem k25 : (Rows.namesRow.veiled == (Try.f3.params.toList ++ Rows.namesSpec.plain.varTypes Try.prog ++ Try.f3.resultTypes.toList).any (Try.prog.veiledRec ·)) = true := by kernel_rfl
theorem k26 : Rows.namesRow.veiledFits Try.prog Try.f3.params.toList (Try.f3.params.toList ++ Rows.namesSpec.plain.varTypes Try.prog ++ Try.f3.resultTypes.toList) = true := by kernel_rfl
theorem named_ : Try.prog.funcNamed Rows.namesRow.func = some 3 := by kernel_rfl
theorem there_ : Try.prog.funcs[3]? = some Try.f3 := Try.func3
theorem closed_ : joinedFacts Try.prog 3 Try.f3 Rows.namesSpec Rows.namesRow = true :=
  facts_of fLaid fMaps fStops fKnobs fHeard fEnter k1 k2 k3 k4 k5 k6 k7 k8 k9 k10 k11 k12 k13 k14 k15 k16 k17 k18 k19 k20 k21 k22 k23 k24 k25 k26
theorem inst_ : Try.f3.isInstance Try.prog Rows.namesRow.origin Rows.namesRow.targs := of_decide_eq_true (by kernel_rfl)
theorem wrap_ : Try.f3.isWrapper Try.prog Rows.namesRow.wrapper Rows.namesRow.mainSum := by
  unfold Func.isWrapper
  rw [if_neg (by decide +kernel)]
  exact ⟨rfl, rfl⟩

theorem over : Rows.namesRow.holds Try.pinned (OpenSpec.ofChange Rows.namesSpec) :=
  OpenClaim.holds_of_wide 3 Try.f3 rfl rfl rfl rfl rfl rfl rfl ⟨rfl, rfl, rfl, rfl, rfl⟩ rfl rfl rfl rfl rfl named_ there_ closed_ inst_ wrap_
    (fun os started H enc _ => lifted os started H enc)

theorem proved : Rows.NamesSaid :=
  over
#print axioms proved
end Go.Proofs.Ytjpppdacamhhfaa.names
