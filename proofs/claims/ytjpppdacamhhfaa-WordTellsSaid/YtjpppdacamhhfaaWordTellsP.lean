/- The statement 'WordTells' of the given program, proved. Conditions: none. -/
import Derived.Test.YtjpppdacamhhfaaRows
import Derived.WalkKit
import Derived.ProofKit
import Derived.OpenShut
import Derived.Test.YtjpppdacamhhfaaFacts
import Derived.Test.YtjpppdacamhhfaaLawWord
namespace Go.Proofs.Ytjpppdacamhhfaa.wordTells
open Go.ChangeShapes Go.WideShapes Go.ChangeAt Go.RowKit
set_option linter.unusedVariables false

theorem walk (a0 : Int) (a1 : Int) (w0 : (Lit.int .i64 a0).wf = true) (w1 : (Lit.int .i64 a1).wf = true) (w : World) :
    Calls Try.prog 5 #[.int .i64 a0, .int .i64 a1] w fun e w' => e = .returned (.bool true) ∧ Grown w w' := by
  obtain ⟨b1, b2⟩ := bounds_i64 w0
  obtain ⟨b3, b4⟩ := bounds_i64 w1
  exact (wordTells_walk a0 a1 w b1 b2 b3 b4).mono fun e w' ⟨he, hw⟩ => ⟨he, hw ▸ Grown.refl _⟩

set_option maxRecDepth 100000 in
theorem lifted (os : Os) (started : os.Started) (H : Type) (enc : TypeId × Value → H) :
    ReturnsInHanded {} Try.checked os 5 .any (Rows.wordTellsSpec.pre6 enc Try.prog Try.f5 Rows.wordTellsRow.domain false) (Rows.wordTellsSpec.post enc Try.prog Try.f5 false true false false) := by
  refine returnsInHanded_of_change (C := Try.checked) fOwn started (by kernel_rfl) Try.func5
    (ChangeSpec.witness6 (enc := enc) (C := Try.checked) false ⟨#[], #[.int .i64 0, .int .i64 0], []⟩ 8 (by kernel_rfl) (by kernel_rfl) (by kernel_rfl) (by kernel_rfl)) ?_
  intro W base args ds gs before hval0 hW hcnd _
  have hval : ∀ (j : Nat) t v, Try.f5.params[j]? = some t → args[j]? = some v → Value.okWide Try.prog W .any base t v := hval0
  have hW' := hW
  obtain ⟨p, q, hA0, hV, rfl, hfz, hnd⟩ := hW
  have hA : DataW.TrodAll enc Try.prog W 0 (fun _ => true) true Try.f5.params.toList args.toList ds p := hA0
  rw [Try.params5] at hA hval
  obtain ⟨v0, vs0, d0, ds0, p0, q0, hargs, rfl, rfl, h0, r0⟩ := trodAll_cons hA
  obtain ⟨v1, vs1, d1, ds1, p1, q1, rfl, rfl, rfl, h1, r1⟩ := trodAll_cons r0
  obtain ⟨rfl, rfl, rfl⟩ := trodAll_nil r1
  obtain rfl : args = #[v0, v1] := by cases args; simp_all
  obtain ⟨rfl, rfl⟩ := trodVars_none hV
  obtain ⟨a0, rfl, rfl, rfl, w0⟩ := open_int Try.underlying3 (hval 0 3 v0 rfl rfl) h0
  obtain ⟨a1, rfl, rfl, rfl, w1⟩ := open_int Try.underlying3 (hval 1 3 v1 rfl rfl) h1
  clear hA0 hval0
  simp only [List.append_nil] at hW'
  refine (walk a0 a1 w0 w1 W).mono fun e W' ⟨he, hg⟩ => ?_
  subst he
  exact ⟨_, rfl, post_of_same (pa := []) (pv := []) hW' (fun _ _ _ => (trodAll_cons_mk (shut_bool Try.underlying4 _) trodAll_mk0)) (fun sp _ => (trodAll_cons_mk (shut_int Try.underlying3 w0) (trodAll_cons_mk (shut_int Try.underlying3 w1) trodAll_mk0))) (fun _ _ => rfl) rfl
    (hg.frame _) hg.2.1 (ok_one (by kernel_rfl) rfl (okWide_bool_mk Try.underlying4 _))⟩

theorem k1 : Rows.wordTellsRow.wf (OpenSpec.ofChange Rows.wordTellsSpec) = true := by kernel_rfl
theorem k2 : Try.f5.params.all (Try.prog.readableRec ·) = true := by kernel_rfl
theorem k3 : namedTie Try.prog Rows.wordTellsRow.named Rows.wordTellsSpec.vars = true := by kernel_rfl
theorem k4 : (Rows.wordTellsRow.stops == []) = true := by kernel_rfl
theorem k5 : (Rows.wordTellsRow.knobs == []) = true := by kernel_rfl
theorem k6 : (Rows.wordTellsRow.inPlace == Try.prog.inPlace 5) = true := by kernel_rfl
theorem k7 : (Rows.wordTellsRow.unfollowed == Try.prog.unfollowed 5) = true := by kernel_rfl
theorem k8 : (Rows.wordTellsRow.recurses == Try.prog.recurses 5) = true := by kernel_rfl
theorem k9 : (Rows.wordTellsRow.named == Try.prog.varsNamed 5) = true := by kernel_rfl
theorem k10 : (Rows.wordTellsRow.maps == (Try.f5.params.toList ++ Rows.wordTellsSpec.plain.varTypes Try.prog).any (Try.prog.mapsRec ·)) = true := by kernel_rfl
theorem k11 : (Rows.wordTellsRow.ifaces == (Try.f5.params.toList ++ Rows.wordTellsSpec.plain.varTypes Try.prog).any (Try.prog.ifacesRec ·)) = true := by kernel_rfl
theorem k12 : (Rows.wordTellsRow.mapsOut == Try.prog.mapsAmong Try.f5.resultTypes.toList) = true := by kernel_rfl
theorem k13 : (Rows.wordTellsRow.loops == (Try.f5.params.toList ++ Rows.wordTellsSpec.plain.varTypes Try.prog).any (Try.prog.loopsFrom ·)) = true := by kernel_rfl
theorem k14 : (Rows.wordTellsRow.wideKeys == (Try.f5.params.toList ++ Rows.wordTellsSpec.plain.varTypes Try.prog ++ Try.f5.resultTypes.toList).any (Try.prog.wideKeysFrom ·)) = true := by kernel_rfl
theorem k15 : Rows.wordTellsSpec.vars.all (Try.prog.varReadable ·) = true := by kernel_rfl
theorem k16 : Try.f5.resultTypes.all (fun t => Try.prog.readableRec t && decide (t < Try.prog.types.size)) = true := by kernel_rfl
theorem k17 : (Rows.wordTellsRow.ifacesOut == Try.f5.resultTypes.toList.any (Try.prog.ifacesRec ·)) = true := by kernel_rfl
theorem k18 : (Rows.wordTellsRow.loopsOut == Try.f5.resultTypes.toList.any (Try.prog.loopsFrom ·)) = true := by kernel_rfl
theorem k19 : (Rows.wordTellsRow.plainKeys == Try.prog.plainKeys) = true := by rw [fKeys]; rfl
theorem k20 : Rows.wordTellsRow.shortTexts.isNone = true := by kernel_rfl
theorem k21 : (Rows.wordTellsRow.lifted == Try.prog.liftsFinal) = true := by rw [fLifts]; rfl
theorem k22 : (Try.prog.make == some Rows.wordTellsRow.make) = true := by rw [fMake]; rfl
theorem k23 : kindsFit Try.prog Try.f5 Rows.wordTellsRow = true := by kernel_rfl
theorem k24 : (Rows.wordTellsRow.pinned == Rows.wordTellsRow.pinnedBy) = true := by kernel_rfl
theorem k25 : (Rows.wordTellsRow.veiled == (Try.f5.params.toList ++ Rows.wordTellsSpec.plain.varTypes Try.prog ++ Try.f5.resultTypes.toList).any (Try.prog.veiledRec ·)) = true := by kernel_rfl
theorem k26 : Rows.wordTellsRow.veiledFits Try.prog Try.f5.params.toList (Try.f5.params.toList ++ Rows.wordTellsSpec.plain.varTypes Try.prog ++ Try.f5.resultTypes.toList) = true := by kernel_rfl
theorem named_ : Try.prog.funcNamed Rows.wordTellsRow.func = some 5 := by kernel_rfl
theorem there_ : Try.prog.funcs[5]? = some Try.f5 := Try.func5
theorem closed_ : joinedFacts Try.prog 5 Try.f5 Rows.wordTellsSpec Rows.wordTellsRow = true :=
  facts_of fLaid fMaps fStops fKnobs fHeard fEnter k1 k2 k3 k4 k5 k6 k7 k8 k9 k10 k11 k12 k13 k14 k15 k16 k17 k18 k19 k20 k21 k22 k23 k24 k25 k26
theorem inst_ : Try.f5.isInstance Try.prog Rows.wordTellsRow.origin Rows.wordTellsRow.targs := of_decide_eq_true (by kernel_rfl)
theorem wrap_ : Try.f5.isWrapper Try.prog Rows.wordTellsRow.wrapper Rows.wordTellsRow.mainSum := by
  unfold Func.isWrapper
  rw [if_neg (by decide +kernel)]
  exact ⟨rfl, rfl⟩

theorem over : Rows.wordTellsRow.holds Try.pinned (OpenSpec.ofChange Rows.wordTellsSpec) :=
  OpenClaim.holds_of_wide 5 Try.f5 rfl rfl rfl rfl rfl rfl rfl ⟨rfl, rfl, rfl, rfl, rfl⟩ rfl rfl rfl rfl rfl named_ there_ closed_ inst_ wrap_
    (fun os started H enc _ => lifted os started H enc)

theorem proved : Rows.WordTellsSaid :=
  over
#print axioms proved
end Go.Proofs.Ytjpppdacamhhfaa.wordTells
