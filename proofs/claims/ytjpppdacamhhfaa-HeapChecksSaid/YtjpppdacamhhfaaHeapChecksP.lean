/- The statement 'HeapChecks' of the given program, proved. Conditions: none. -/
import Derived.Test.YtjpppdacamhhfaaRows
import Derived.WalkKit
import Derived.ProofKit
import Derived.OpenShut
import Derived.Test.YtjpppdacamhhfaaFacts
import Derived.Test.YtjpppdacamhhfaaFrame
import Derived.Test.YtjpppdacamhhfaaOpen
import Derived.Test.YtjpppdacamhhfaaLawChecks
namespace Go.Proofs.Ytjpppdacamhhfaa.heapChecks
open Go.ChangeShapes Go.WideShapes Go.ChangeAt Go.RowKit
set_option linter.unusedVariables false

set_option maxRecDepth 100000 in
theorem lifted (os : Os) (started : os.Started) (H : Type) (enc : TypeId × Value → H) :
    ReturnsInHanded {} Try.checked os 6 .any (Rows.heapChecksSpec.pre6 enc Try.prog Try.f6 Rows.heapChecksRow.domain false) (Rows.heapChecksSpec.post enc Try.prog Try.f6 false true false false) := by
  refine returnsInHanded_of_change (C := Try.checked) fOwn started (by kernel_rfl) Try.func6
    (ChangeSpec.witness6 (enc := enc) (C := Try.checked) false ⟨#[], #[.agg #[.slice none 0 0]], []⟩ 8 (by kernel_rfl) (by kernel_rfl) (by kernel_rfl) (by kernel_rfl)) ?_
  intro W base args ds gs before hval0 hW hcnd _
  have hval : ∀ (j : Nat) t v, Try.f6.params[j]? = some t → args[j]? = some v → Value.okWide Try.prog W .any base t v := hval0
  have hW' := hW
  obtain ⟨p, q, hA0, hV, rfl, hfz, hnd⟩ := hW
  have hA : DataW.TrodAll enc Try.prog W 0 (fun _ => true) true Try.f6.params.toList args.toList ds p := hA0
  rw [Try.params6] at hA hval
  obtain ⟨v0, vs0, d0, ds0, p0, q0, hargs, rfl, rfl, h0, r0⟩ := trodAll_cons hA
  obtain ⟨rfl, rfl, rfl⟩ := trodAll_nil r0
  obtain rfl : args = #[v0] := by cases args; simp_all
  obtain ⟨rfl, rfl⟩ := trodVars_none hV
  obtain ⟨A0, xs0, c0, rfl, cap0, i0, m0, len0⟩ := open_heap (hval 0 33 v0 rfl rfl) h0
  clear hA0 hval0
  simp only [List.append_nil] at hW'
  refine (heapChecks_walk xs0 A0 c0 W m0 cap0 i0 len0).mono fun e W' ⟨he, hg⟩ => ?_
  subst he
  refine ⟨_, rfl, post_of_below (pa := (p0 ++ [])) (pv := []) hW' (fun _ _ _ => (trodAll_cons_mk (shut_bool Try.underlying4 _) trodAll_mk0)) (trodAll_cons_mk (stays_heap h0 hg (fun x hx => hW'.lt x (by simp [hx]))) trodAll_mk0) rfl (by simp) hg⟩

theorem k1 : Rows.heapChecksRow.wf (OpenSpec.ofChange Rows.heapChecksSpec) = true := by kernel_rfl
theorem k2 : Try.f6.params.all (Try.prog.readableRec ·) = true := by kernel_rfl
theorem k3 : namedTie Try.prog Rows.heapChecksRow.named Rows.heapChecksSpec.vars = true := by kernel_rfl
theorem k4 : (Rows.heapChecksRow.stops == []) = true := by kernel_rfl
theorem k5 : (Rows.heapChecksRow.knobs == []) = true := by kernel_rfl
theorem k6 : (Rows.heapChecksRow.inPlace == Try.prog.inPlace 6) = true := by kernel_rfl
theorem k7 : (Rows.heapChecksRow.unfollowed == Try.prog.unfollowed 6) = true := by kernel_rfl
theorem k8 : (Rows.heapChecksRow.recurses == Try.prog.recurses 6) = true := by kernel_rfl
theorem k9 : (Rows.heapChecksRow.named == Try.prog.varsNamed 6) = true := by kernel_rfl
theorem k10 : (Rows.heapChecksRow.maps == (Try.f6.params.toList ++ Rows.heapChecksSpec.plain.varTypes Try.prog).any (Try.prog.mapsRec ·)) = true := by kernel_rfl
theorem k11 : (Rows.heapChecksRow.ifaces == (Try.f6.params.toList ++ Rows.heapChecksSpec.plain.varTypes Try.prog).any (Try.prog.ifacesRec ·)) = true := by kernel_rfl
theorem k12 : (Rows.heapChecksRow.mapsOut == Try.prog.mapsAmong Try.f6.resultTypes.toList) = true := by kernel_rfl
theorem k13 : (Rows.heapChecksRow.loops == (Try.f6.params.toList ++ Rows.heapChecksSpec.plain.varTypes Try.prog).any (Try.prog.loopsFrom ·)) = true := by kernel_rfl
theorem k14 : (Rows.heapChecksRow.wideKeys == (Try.f6.params.toList ++ Rows.heapChecksSpec.plain.varTypes Try.prog ++ Try.f6.resultTypes.toList).any (Try.prog.wideKeysFrom ·)) = true := by kernel_rfl
theorem k15 : Rows.heapChecksSpec.vars.all (Try.prog.varReadable ·) = true := by kernel_rfl
theorem k16 : Try.f6.resultTypes.all (fun t => Try.prog.readableRec t && decide (t < Try.prog.types.size)) = true := by kernel_rfl
theorem k17 : (Rows.heapChecksRow.ifacesOut == Try.f6.resultTypes.toList.any (Try.prog.ifacesRec ·)) = true := by kernel_rfl
theorem k18 : (Rows.heapChecksRow.loopsOut == Try.f6.resultTypes.toList.any (Try.prog.loopsFrom ·)) = true := by kernel_rfl
theorem k19 : (Rows.heapChecksRow.plainKeys == Try.prog.plainKeys) = true := by rw [fKeys]; rfl
theorem k20 : Rows.heapChecksRow.shortTexts.isNone = true := by kernel_rfl
theorem k21 : (Rows.heapChecksRow.lifted == Try.prog.liftsFinal) = true := by rw [fLifts]; rfl
theorem k22 : (Try.prog.make == some Rows.heapChecksRow.make) = true := by rw [fMake]; rfl
theorem k23 : kindsFit Try.prog Try.f6 Rows.heapChecksRow = true := by kernel_rfl
theorem k24 : (Rows.heapChecksRow.pinned == Rows.heapChecksRow.pinnedBy) = true := by kernel_rfl
theorem k25 : (Rows.heapChecksRow.veiled == (Try.f6.params.toList ++ Rows.heapChecksSpec.plain.varTypes Try.prog ++ Try.f6.resultTypes.toList).any (Try.prog.veiledRec ·)) = true := by kernel_rfl
theorem k26 : Rows.heapChecksRow.veiledFits Try.prog Try.f6.params.toList (Try.f6.params.toList ++ Rows.heapChecksSpec.plain.varTypes Try.prog ++ Try.f6.resultTypes.toList) = true := by kernel_rfl
theorem named_ : Try.prog.funcNamed Rows.heapChecksRow.func = some 6 := by kernel_rfl
theorem there_ : Try.prog.funcs[6]? = some Try.f6 := Try.func6
theorem closed_ : joinedFacts Try.prog 6 Try.f6 Rows.heapChecksSpec Rows.heapChecksRow = true :=
  facts_of fLaid fMaps fStops fKnobs fHeard fEnter k1 k2 k3 k4 k5 k6 k7 k8 k9 k10 k11 k12 k13 k14 k15 k16 k17 k18 k19 k20 k21 k22 k23 k24 k25 k26

theorem inst_ : Try.f6.isInstance Try.prog Rows.heapChecksRow.origin Rows.heapChecksRow.targs := of_decide_eq_true (by kernel_rfl)
theorem wrap_ : Try.f6.isWrapper Try.prog Rows.heapChecksRow.wrapper Rows.heapChecksRow.mainSum := by
  unfold Func.isWrapper
  rw [if_neg (by decide +kernel)]
  exact ⟨rfl, rfl⟩

theorem over : Rows.heapChecksRow.holds Try.pinned (OpenSpec.ofChange Rows.heapChecksSpec) :=
  OpenClaim.holds_of_wide 6 Try.f6 rfl rfl rfl rfl rfl rfl rfl ⟨rfl, rfl, rfl, rfl, rfl⟩ rfl rfl rfl rfl rfl named_ there_ closed_ inst_ wrap_
    (fun os started H enc _ => lifted os started H enc)

theorem proved : Rows.HeapChecksSaid := over

#print axioms proved

end Go.Proofs.Ytjpppdacamhhfaa.heapChecks
