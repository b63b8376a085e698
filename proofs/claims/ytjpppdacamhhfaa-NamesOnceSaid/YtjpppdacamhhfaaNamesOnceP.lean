/- The statement 'NamesOnce' of the given program, proved. Conditions: none. -/
import Derived.Test.YtjpppdacamhhfaaRows
import Derived.WalkKit
import Derived.ProofKit
import Derived.OpenShut
import Derived.ChangeMaps5
import Derived.Test.YtjpppdacamhhfaaFacts
import Derived.Test.YtjpppdacamhhfaaFrame
import Derived.Test.YtjpppdacamhhfaaOpen
import Derived.Test.YtjpppdacamhhfaaLawNmO
namespace Go.Proofs.Ytjpppdacamhhfaa.namesOnce
open Go.ChangeShapes Go.WideShapes Go.ChangeAt Go.RowKit
set_option linter.unusedVariables false

set_option maxRecDepth 100000 in
theorem lifted (os : Os) (started : os.Started) (H : Type) (enc : TypeId × Value → H) :
    ReturnsInHanded {} Try.checked os 23 .any (Rows.namesOnceSpec.pre6 enc Try.prog Try.f23 Rows.namesOnceRow.domain false) (Rows.namesOnceSpec.post enc Try.prog Try.f23 false true false false) := by
  refine returnsInHanded_of_change (C := Try.checked) fOwn started (by kernel_rfl) Try.func23
    (ChangeSpec.witness6 (enc := enc) (C := Try.checked) false ⟨#[], #[.agg #[.slice none 0 0], .int .i64 0, .string ByteArray.empty, .string ByteArray.empty], []⟩ 8 (by kernel_rfl) (by kernel_rfl) (by kernel_rfl) (by kernel_rfl)) ?_
  intro W base args ds gs before hval0 hW hcnd _
  have hval : ∀ (j : Nat) t v, Try.f23.params[j]? = some t → args[j]? = some v → Value.okWide Try.prog W .any base t v := hval0
  have hW' := hW
  obtain ⟨p, q, hA0, hV, rfl, hfz, hnd⟩ := hW
  have hA : DataW.TrodAll enc Try.prog W 0 (fun _ => true) true Try.f23.params.toList args.toList ds p := hA0
  rw [Try.params23] at hA hval
  obtain ⟨v0, vs0, d0, ds0, p0, q0, hargs, rfl, rfl, h0, r0⟩ := trodAll_cons hA
  obtain ⟨v1, vs1, d1, ds1, p1, q1, rfl, rfl, rfl, h1, r1⟩ := trodAll_cons r0
  obtain ⟨v2, vs2, d2, ds2, p2, q2, rfl, rfl, rfl, h2, r2⟩ := trodAll_cons r1
  obtain ⟨v3, vs3, d3, ds3, p3, q3, rfl, rfl, rfl, h3, r3⟩ := trodAll_cons r2
  obtain ⟨rfl, rfl, rfl⟩ := trodAll_nil r3
  obtain rfl : args = #[v0, v1, v2, v3] := by cases args; simp_all
  obtain ⟨rfl, rfl⟩ := trodVars_none hV
  obtain ⟨A0, xs0, c0, rfl, cap0, i0, m0, len0⟩ := open_heap (hval 0 33 v0 rfl rfl) h0
  obtain ⟨a1, rfl, rfl, rfl, w1⟩ := open_int Try.underlying3 (hval 1 3 v1 rfl rfl) h1
  obtain ⟨lo1, hi1⟩ := bounds_i64 w1
  obtain ⟨s2, rfl, rfl, rfl, z2⟩ := Go.ChangeMaps.open_string Try.underlying9 (hval 2 9 v2 rfl rfl) h2
  have y2 : s2.size ≤ 9223372036854775807 := by unfold maxLen at z2; omega
  obtain ⟨s3, rfl, rfl, rfl, z3⟩ := Go.ChangeMaps.open_string Try.underlying9 (hval 3 9 v3 rfl rfl) h3
  have y3 : s3.size ≤ 9223372036854775807 := by unfold maxLen at z3; omega
  clear hA0 hval0
  simp only [List.append_nil] at hW'
  refine (namesOnce_walk xs0 A0 c0 a1 s2 s3 W m0 cap0 i0 len0 lo1 hi1 y2 y3).mono fun e W' ⟨he, hg⟩ => ?_
  subst he
  refine ⟨_, rfl, post_of_below (pa := (p0 ++ ([] ++ ([] ++ ([] ++ []))))) (pv := []) hW' (fun _ _ _ => (trodAll_cons_mk (shut_bool Try.underlying4 _) trodAll_mk0)) (trodAll_cons_mk (stays_heap h0 hg (fun x hx => hW'.lt x (by simp [hx]))) (trodAll_cons_mk (shut_int Try.underlying3 w1) (trodAll_cons_mk (Go.ChangeMaps.shut_string Try.underlying9 z2) (trodAll_cons_mk (Go.ChangeMaps.shut_string Try.underlying9 z3) trodAll_mk0)))) rfl (by simp) hg⟩

theorem k1 : Rows.namesOnceRow.wf (OpenSpec.ofChange Rows.namesOnceSpec) = true := by kernel_rfl
theorem k2 : Try.f23.params.all (Try.prog.readableRec ·) = true := by kernel_rfl
theorem k3 : namedTie Try.prog Rows.namesOnceRow.named Rows.namesOnceSpec.vars = true := by kernel_rfl
theorem k4 : (Rows.namesOnceRow.stops == []) = true := by kernel_rfl
theorem k5 : (Rows.namesOnceRow.knobs == []) = true := by kernel_rfl
theorem k6 : (Rows.namesOnceRow.inPlace == Try.prog.inPlace 23) = true := by kernel_rfl
theorem k7 : (Rows.namesOnceRow.unfollowed == Try.prog.unfollowed 23) = true := by kernel_rfl
theorem k8 : (Rows.namesOnceRow.recurses == Try.prog.recurses 23) = true := by kernel_rfl
theorem k9 : (Rows.namesOnceRow.named == Try.prog.varsNamed 23) = true := by kernel_rfl
theorem k10 : (Rows.namesOnceRow.maps == (Try.f23.params.toList ++ Rows.namesOnceSpec.plain.varTypes Try.prog).any (Try.prog.mapsRec ·)) = true := by kernel_rfl
theorem k11 : (Rows.namesOnceRow.ifaces == (Try.f23.params.toList ++ Rows.namesOnceSpec.plain.varTypes Try.prog).any (Try.prog.ifacesRec ·)) = true := by kernel_rfl
theorem k12 : (Rows.namesOnceRow.mapsOut == Try.prog.mapsAmong Try.f23.resultTypes.toList) = true := by kernel_rfl
theorem k13 : (Rows.namesOnceRow.loops == (Try.f23.params.toList ++ Rows.namesOnceSpec.plain.varTypes Try.prog).any (Try.prog.loopsFrom ·)) = true := by kernel_rfl
theorem k14 : (Rows.namesOnceRow.wideKeys == (Try.f23.params.toList ++ Rows.namesOnceSpec.plain.varTypes Try.prog ++ Try.f23.resultTypes.toList).any (Try.prog.wideKeysFrom ·)) = true := by kernel_rfl
theorem k15 : Rows.namesOnceSpec.vars.all (Try.prog.varReadable ·) = true := by kernel_rfl
theorem k16 : Try.f23.resultTypes.all (fun t => Try.prog.readableRec t && decide (t < Try.prog.types.size)) = true := by kernel_rfl
theorem k17 : (Rows.namesOnceRow.ifacesOut == Try.f23.resultTypes.toList.any (Try.prog.ifacesRec ·)) = true := by kernel_rfl
theorem k18 : (Rows.namesOnceRow.loopsOut == Try.f23.resultTypes.toList.any (Try.prog.loopsFrom ·)) = true := by kernel_rfl
theorem k19 : (Rows.namesOnceRow.plainKeys == Try.prog.plainKeys) = true := by rw [fKeys]; rfl
theorem k20 : Rows.namesOnceRow.shortTexts.isNone = true := by kernel_rfl
theorem k21 : (Rows.namesOnceRow.lifted == Try.prog.liftsFinal) = true := by rw [fLifts]; rfl
theorem k22 : (Try.prog.make == some Rows.namesOnceRow.make) = true := by rw [fMake]; rfl
theorem k23 : kindsFit Try.prog Try.f23 Rows.namesOnceRow = true := by kernel_rfl
theorem k24 : (Rows.namesOnceRow.pinned == Rows.namesOnceRow.pinnedBy) = true := by kernel_rfl
theorem k25 : (Rows.namesOnceRow.veiled == (Try.f23.params.toList ++ Rows.namesOnceSpec.plain.varTypes Try.prog ++ Try.f23.resultTypes.toList).any (Try.prog.veiledRec ·)) = true := by kernel_rfl
theorem k26 : Rows.namesOnceRow.veiledFits Try.prog Try.f23.params.toList (Try.f23.params.toList ++ Rows.namesOnceSpec.plain.varTypes Try.prog ++ Try.f23.resultTypes.toList) = true := by kernel_rfl
theorem named_ : Try.prog.funcNamed Rows.namesOnceRow.func = some 23 := by kernel_rfl
theorem there_ : Try.prog.funcs[23]? = some Try.f23 := Try.func23
theorem closed_ : joinedFacts Try.prog 23 Try.f23 Rows.namesOnceSpec Rows.namesOnceRow = true :=
  facts_of fLaid fMaps fStops fKnobs fHeard fEnter k1 k2 k3 k4 k5 k6 k7 k8 k9 k10 k11 k12 k13 k14 k15 k16 k17 k18 k19 k20 k21 k22 k23 k24 k25 k26

theorem inst_ : Try.f23.isInstance Try.prog Rows.namesOnceRow.origin Rows.namesOnceRow.targs := of_decide_eq_true (by kernel_rfl)
theorem wrap_ : Try.f23.isWrapper Try.prog Rows.namesOnceRow.wrapper Rows.namesOnceRow.mainSum := by
  unfold Func.isWrapper
  rw [if_neg (by decide +kernel)]
  exact ⟨rfl, rfl⟩

theorem over : Rows.namesOnceRow.holds Try.pinned (OpenSpec.ofChange Rows.namesOnceSpec) :=
  OpenClaim.holds_of_wide 23 Try.f23 rfl rfl rfl rfl rfl rfl rfl ⟨rfl, rfl, rfl, rfl, rfl⟩ rfl rfl rfl rfl rfl named_ there_ closed_ inst_ wrap_
    (fun os started H enc _ => lifted os started H enc)

theorem proved : Rows.NamesOnceSaid := over

#print axioms proved

end Go.Proofs.Ytjpppdacamhhfaa.namesOnce
