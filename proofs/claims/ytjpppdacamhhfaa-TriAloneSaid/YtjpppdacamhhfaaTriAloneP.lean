/- The statement 'TriAlone' of the given program, proved. Conditions: none. -/
import Derived.Test.YtjpppdacamhhfaaRows
import Derived.WalkKit
import Derived.ProofKit
import Derived.OpenShut
import Derived.Test.YtjpppdacamhhfaaFacts
import Derived.Test.YtjpppdacamhhfaaFrame
import Derived.Test.YtjpppdacamhhfaaOpen
import Derived.Test.YtjpppdacamhhfaaLawTriA
namespace Go.Proofs.Ytjpppdacamhhfaa.triAlone
open Go.ChangeShapes Go.WideShapes Go.ChangeAt Go.RowKit
set_option linter.unusedVariables false

set_option maxRecDepth 100000 in
theorem lifted (os : Os) (started : os.Started) (H : Type) (enc : TypeId × Value → H) :
    ReturnsInHanded {} Try.checked os 28 .any (Rows.triAloneSpec.pre6 enc Try.prog Try.f28 Rows.triAloneRow.domain false) (Rows.triAloneSpec.post enc Try.prog Try.f28 false true false false) := by
  refine returnsInHanded_of_change (C := Try.checked) fOwn started (by kernel_rfl) Try.func28
    (ChangeSpec.witness6 (enc := enc) (C := Try.checked) false ⟨#[], #[.agg #[.slice none 0 0], .slice none 0 0], []⟩ 8 (by kernel_rfl) (by kernel_rfl) (by kernel_rfl) (by kernel_rfl)) ?_
  intro W base args ds gs before hval0 hW hcnd _
  have hval : ∀ (j : Nat) t v, Try.f28.params[j]? = some t → args[j]? = some v → Value.okWide Try.prog W .any base t v := hval0
  have hW' := hW
  obtain ⟨p, q, hA0, hV, rfl, hfz, hnd⟩ := hW
  have hA : DataW.TrodAll enc Try.prog W 0 (fun _ => true) true Try.f28.params.toList args.toList ds p := hA0
  rw [Try.params28] at hA hval
  obtain ⟨v0, vs0, d0, ds0, p0, q0, hargs, rfl, rfl, h0, r0⟩ := trodAll_cons hA
  obtain ⟨v1, vs1, d1, ds1, p1, q1, rfl, rfl, rfl, h1, r1⟩ := trodAll_cons r0
  obtain ⟨rfl, rfl, rfl⟩ := trodAll_nil r1
  obtain rfl : args = #[v0, v1] := by cases args; simp_all
  obtain ⟨rfl, rfl⟩ := trodVars_none hV
  obtain ⟨A0, xs0, c0, rfl, cap0, i0, m0, len0⟩ := open_heap (hval 0 33 v0 rfl rfl) h0
  obtain ⟨A1, xs1, c1, rfl, cap1, i1, m1, len1⟩ := open_list (hval 1 22 v1 rfl rfl) h1
  clear hA0 hval0
  simp only [List.append_nil] at hW'
  refine (triAlone_walk xs0 A0 c0 xs1 A1 c1 W m0 cap0 i0 len0 m1 cap1 i1 len1).mono fun e W' ⟨he, hg⟩ => ?_
  subst he
  refine ⟨_, rfl, post_of_below (pa := (p0 ++ (p1 ++ []))) (pv := []) hW' (fun _ _ _ => (trodAll_cons_mk (shut_bool Try.underlying4 _) trodAll_mk0)) (trodAll_cons_mk (stays_heap h0 hg (fun x hx => hW'.lt x (by simp [hx]))) (trodAll_cons_mk (stays_list h1 hg (fun x hx => hW'.lt x (by simp [hx]))) trodAll_mk0)) rfl (by simp) hg⟩

theorem k1 : Rows.triAloneRow.wf (OpenSpec.ofChange Rows.triAloneSpec) = true := by kernel_rfl
theorem k2 : Try.f28.params.all (Try.prog.readableRec ·) = true := by kernel_rfl
theorem k3 : namedTie Try.prog Rows.triAloneRow.named Rows.triAloneSpec.vars = true := by kernel_rfl
theorem k4 : (Rows.triAloneRow.stops == []) = true := by kernel_rfl
theorem k5 : (Rows.triAloneRow.knobs == []) = true := by kernel_rfl
theorem k6 : (Rows.triAloneRow.inPlace == Try.prog.inPlace 28) = true := by kernel_rfl
theorem k7 : (Rows.triAloneRow.unfollowed == Try.prog.unfollowed 28) = true := by kernel_rfl
theorem k8 : (Rows.triAloneRow.recurses == Try.prog.recurses 28) = true := by kernel_rfl
theorem k9 : (Rows.triAloneRow.named == Try.prog.varsNamed 28) = true := by kernel_rfl
theorem k10 : (Rows.triAloneRow.maps == (Try.f28.params.toList ++ Rows.triAloneSpec.plain.varTypes Try.prog).any (Try.prog.mapsRec ·)) = true := by kernel_rfl
theorem k11 : (Rows.triAloneRow.ifaces == (Try.f28.params.toList ++ Rows.triAloneSpec.plain.varTypes Try.prog).any (Try.prog.ifacesRec ·)) = true := by kernel_rfl
theorem k12 : (Rows.triAloneRow.mapsOut == Try.prog.mapsAmong Try.f28.resultTypes.toList) = true := by kernel_rfl
theorem k13 : (Rows.triAloneRow.loops == (Try.f28.params.toList ++ Rows.triAloneSpec.plain.varTypes Try.prog).any (Try.prog.loopsFrom ·)) = true := by kernel_rfl
theorem k14 : (Rows.triAloneRow.wideKeys == (Try.f28.params.toList ++ Rows.triAloneSpec.plain.varTypes Try.prog ++ Try.f28.resultTypes.toList).any (Try.prog.wideKeysFrom ·)) = true := by kernel_rfl
theorem k15 : Rows.triAloneSpec.vars.all (Try.prog.varReadable ·) = true := by kernel_rfl
theorem k16 : Try.f28.resultTypes.all (fun t => Try.prog.readableRec t && decide (t < Try.prog.types.size)) = true := by kernel_rfl
theorem k17 : (Rows.triAloneRow.ifacesOut == Try.f28.resultTypes.toList.any (Try.prog.ifacesRec ·)) = true := by kernel_rfl
theorem k18 : (Rows.triAloneRow.loopsOut == Try.f28.resultTypes.toList.any (Try.prog.loopsFrom ·)) = true := by kernel_rfl
theorem k19 : (Rows.triAloneRow.plainKeys == Try.prog.plainKeys) = true := by rw [fKeys]; rfl
theorem k20 : Rows.triAloneRow.shortTexts.isNone = true := by kernel_rfl
theorem k21 : (Rows.triAloneRow.lifted == Try.prog.liftsFinal) = true := by rw [fLifts]; rfl
theorem k22 : (Try.prog.make == some Rows.triAloneRow.make) = true := by rw [fMake]; rfl
theorem k23 : kindsFit Try.prog Try.f28 Rows.triAloneRow = true := by kernel_rfl
theorem k24 : (Rows.triAloneRow.pinned == Rows.triAloneRow.pinnedBy) = true := by kernel_rfl
theorem k25 : (Rows.triAloneRow.veiled == (Try.f28.params.toList ++ Rows.triAloneSpec.plain.varTypes Try.prog ++ Try.f28.resultTypes.toList).any (Try.prog.veiledRec ·)) = true := by kernel_rfl
theorem k26 : Rows.triAloneRow.veiledFits Try.prog Try.f28.params.toList (Try.f28.params.toList ++ Rows.triAloneSpec.plain.varTypes Try.prog ++ Try.f28.resultTypes.toList) = true := by kernel_rfl
theorem named_ : Try.prog.funcNamed Rows.triAloneRow.func = some 28 := by kernel_rfl
theorem there_ : Try.prog.funcs[28]? = some Try.f28 := Try.func28
theorem closed_ : joinedFacts Try.prog 28 Try.f28 Rows.triAloneSpec Rows.triAloneRow = true :=
  facts_of fLaid fMaps fStops fKnobs fHeard fEnter k1 k2 k3 k4 k5 k6 k7 k8 k9 k10 k11 k12 k13 k14 k15 k16 k17 k18 k19 k20 k21 k22 k23 k24 k25 k26

theorem inst_ : Try.f28.isInstance Try.prog Rows.triAloneRow.origin Rows.triAloneRow.targs := of_decide_eq_true (by kernel_rfl)
theorem wrap_ : Try.f28.isWrapper Try.prog Rows.triAloneRow.wrapper Rows.triAloneRow.mainSum := by
  unfold Func.isWrapper
  rw [if_neg (by decide +kernel)]
  exact ⟨rfl, rfl⟩

theorem over : Rows.triAloneRow.holds Try.pinned (OpenSpec.ofChange Rows.triAloneSpec) :=
  OpenClaim.holds_of_wide 28 Try.f28 rfl rfl rfl rfl rfl rfl rfl ⟨rfl, rfl, rfl, rfl, rfl⟩ rfl rfl rfl rfl rfl named_ there_ closed_ inst_ wrap_
    (fun os started H enc _ => lifted os started H enc)

theorem proved : Rows.TriAloneSaid := over

#print axioms proved

end Go.Proofs.Ytjpppdacamhhfaa.triAlone
