/- The statement 'TriPlays' of the given program, proved. Conditions: none. -/
import Derived.Test.YtjpppdacamhhfaaRows
import Derived.WalkKit
import Derived.ProofKit
import Derived.OpenShut
import Derived.Test.YtjpppdacamhhfaaFacts
import Derived.Test.YtjpppdacamhhfaaFrame
import Derived.Test.YtjpppdacamhhfaaOpen
import Derived.Test.YtjpppdacamhhfaaLawTriP
import Derived.Test.YtjpppdacamhhfaaOpenO
namespace Go.Proofs.Ytjpppdacamhhfaa.triPlays
open Go.ChangeShapes Go.WideShapes Go.ChangeAt Go.RowKit
set_option linter.unusedVariables false

set_option maxRecDepth 100000 in
theorem lifted (os : Os) (started : os.Started) (H : Type) (enc : TypeId × Value → H) :
    ReturnsInHanded {} Try.checked os 26 .any (Rows.triPlaysSpec.pre6 enc Try.prog Try.f26 Rows.triPlaysRow.domain false) (Rows.triPlaysSpec.post enc Try.prog Try.f26 false true false false) := by
  refine returnsInHanded_of_change (C := Try.checked) fOwn started (by kernel_rfl) Try.func26
    (ChangeSpec.witness6 (enc := enc) (C := Try.checked) false ⟨#[], #[.agg #[.slice none 0 0], .slice none 0 0, .slice none 0 0], []⟩ 8 (by kernel_rfl) (by kernel_rfl) (by kernel_rfl) (by kernel_rfl)) ?_
  intro W base args ds gs before hval0 hW hcnd _
  have hval : ∀ (j : Nat) t v, Try.f26.params[j]? = some t → args[j]? = some v → Value.okWide Try.prog W .any base t v := hval0
  have hW' := hW
  obtain ⟨p, q, hA0, hV, rfl, hfz, hnd⟩ := hW
  have hA : DataW.TrodAll enc Try.prog W 0 (fun _ => true) true Try.f26.params.toList args.toList ds p := hA0
  rw [Try.params26] at hA hval
  obtain ⟨v0, vs0, d0, ds0, p0, q0, hargs, rfl, rfl, h0, r0⟩ := trodAll_cons hA
  obtain ⟨v1, vs1, d1, ds1, p1, q1, rfl, rfl, rfl, h1, r1⟩ := trodAll_cons r0
  obtain ⟨v2, vs2, d2, ds2, p2, q2, rfl, rfl, rfl, h2, r2⟩ := trodAll_cons r1
  obtain ⟨rfl, rfl, rfl⟩ := trodAll_nil r2
  obtain rfl : args = #[v0, v1, v2] := by cases args; simp_all
  obtain ⟨rfl, rfl⟩ := trodVars_none hV
  obtain ⟨A0, xs0, c0, rfl, cap0, i0, m0, len0⟩ := open_heap (hval 0 33 v0 rfl rfl) h0
  obtain ⟨A1, xs1, c1, rfl, cap1, i1, m1, len1⟩ := open_list (hval 1 22 v1 rfl rfl) h1
  obtain ⟨A2, xs2, c2, rfl, cap2, i2, m2, len2⟩ := open_ops (hval 2 91 v2 rfl rfl) h2
  clear hA0 hval0
  simp only [List.append_nil] at hW'
  refine (triPlays_walk xs0 A0 c0 xs1 A1 c1 xs2 A2 c2 W m0 cap0 i0 len0 m1 cap1 i1 len1 m2 cap2 i2 len2).mono fun e W' ⟨he, hg⟩ => ?_
  subst he
  refine ⟨_, rfl, post_of_below (pa := (p0 ++ (p1 ++ (p2 ++ [])))) (pv := []) hW' (fun _ _ _ => (trodAll_cons_mk (shut_bool Try.underlying4 _) trodAll_mk0)) (trodAll_cons_mk (stays_heap h0 hg (fun x hx => hW'.lt x (by simp [hx]))) (trodAll_cons_mk (stays_list h1 hg (fun x hx => hW'.lt x (by simp [hx]))) (trodAll_cons_mk (stays_ops h2 hg (fun x hx => hW'.lt x (by simp [hx]))) trodAll_mk0))) rfl (by simp) hg⟩

theorem k1 : Rows.triPlaysRow.wf (OpenSpec.ofChange Rows.triPlaysSpec) = true := by kernel_rfl
theorem k2 : Try.f26.params.all (Try.prog.readableRec ·) = true := by kernel_rfl
theorem k3 : namedTie Try.prog Rows.triPlaysRow.named Rows.triPlaysSpec.vars = true := by kernel_rfl
theorem k4 : (Rows.triPlaysRow.stops == []) = true := by kernel_rfl
theorem k5 : (Rows.triPlaysRow.knobs == []) = true := by kernel_rfl
theorem k6 : (Rows.triPlaysRow.inPlace == Try.prog.inPlace 26) = true := by kernel_rfl
theorem k7 : (Rows.triPlaysRow.unfollowed == Try.prog.unfollowed 26) = true := by kernel_rfl
theorem k8 : (Rows.triPlaysRow.recurses == Try.prog.recurses 26) = true := by kernel_rfl
theorem k9 : (Rows.triPlaysRow.named == Try.prog.varsNamed 26) = true := by kernel_rfl
theorem k10 : (Rows.triPlaysRow.maps == (Try.f26.params.toList ++ Rows.triPlaysSpec.plain.varTypes Try.prog).any (Try.prog.mapsRec ·)) = true := by kernel_rfl
theorem k11 : (Rows.triPlaysRow.ifaces == (Try.f26.params.toList ++ Rows.triPlaysSpec.plain.varTypes Try.prog).any (Try.prog.ifacesRec ·)) = true := by kernel_rfl
theorem k12 : (Rows.triPlaysRow.mapsOut == Try.prog.mapsAmong Try.f26.resultTypes.toList) = true := by kernel_rfl
theorem k13 : (Rows.triPlaysRow.loops == (Try.f26.params.toList ++ Rows.triPlaysSpec.plain.varTypes Try.prog).any (Try.prog.loopsFrom ·)) = true := by kernel_rfl
theorem k14 : (Rows.triPlaysRow.wideKeys == (Try.f26.params.toList ++ Rows.triPlaysSpec.plain.varTypes Try.prog ++ Try.f26.resultTypes.toList).any (Try.prog.wideKeysFrom ·)) = true := by kernel_rfl
theorem k15 : Rows.triPlaysSpec.vars.all (Try.prog.varReadable ·) = true := by kernel_rfl
theorem k16 : Try.f26.resultTypes.all (fun t => Try.prog.readableRec t && decide (t < Try.prog.types.size)) = true := by kernel_rfl
theorem k17 : (Rows.triPlaysRow.ifacesOut == Try.f26.resultTypes.toList.any (Try.prog.ifacesRec ·)) = true := by kernel_rfl
theorem k18 : (Rows.triPlaysRow.loopsOut == Try.f26.resultTypes.toList.any (Try.prog.loopsFrom ·)) = true := by kernel_rfl
theorem k19 : (Rows.triPlaysRow.plainKeys == Try.prog.plainKeys) = true := by rw [fKeys]; rfl
theorem k20 : Rows.triPlaysRow.shortTexts.isNone = true := by kernel_rfl
theorem k21 : (Rows.triPlaysRow.lifted == Try.prog.liftsFinal) = true := by rw [fLifts]; rfl
theorem k22 : (Try.prog.make == some Rows.triPlaysRow.make) = true := by rw [fMake]; rfl
theorem k23 : kindsFit Try.prog Try.f26 Rows.triPlaysRow = true := by kernel_rfl
theorem k24 : (Rows.triPlaysRow.pinned == Rows.triPlaysRow.pinnedBy) = true := by kernel_rfl
theorem k25 : (Rows.triPlaysRow.veiled == (Try.f26.params.toList ++ Rows.triPlaysSpec.plain.varTypes Try.prog ++ Try.f26.resultTypes.toList).any (Try.prog.veiledRec ·)) = true := by kernel_rfl
theorem k26 : Rows.triPlaysRow.veiledFits Try.prog Try.f26.params.toList (Try.f26.params.toList ++ Rows.triPlaysSpec.plain.varTypes Try.prog ++ Try.f26.resultTypes.toList) = true := by kernel_rfl
theorem named_ : Try.prog.funcNamed Rows.triPlaysRow.func = some 26 := by kernel_rfl
theorem there_ : Try.prog.funcs[26]? = some Try.f26 := Try.func26
theorem closed_ : joinedFacts Try.prog 26 Try.f26 Rows.triPlaysSpec Rows.triPlaysRow = true :=
  facts_of fLaid fMaps fStops fKnobs fHeard fEnter k1 k2 k3 k4 k5 k6 k7 k8 k9 k10 k11 k12 k13 k14 k15 k16 k17 k18 k19 k20 k21 k22 k23 k24 k25 k26

theorem inst_ : Try.f26.isInstance Try.prog Rows.triPlaysRow.origin Rows.triPlaysRow.targs := of_decide_eq_true (by kernel_rfl)
theorem wrap_ : Try.f26.isWrapper Try.prog Rows.triPlaysRow.wrapper Rows.triPlaysRow.mainSum := by
  unfold Func.isWrapper
  rw [if_neg (by decide +kernel)]
  exact ⟨rfl, rfl⟩

theorem over : Rows.triPlaysRow.holds Try.pinned (OpenSpec.ofChange Rows.triPlaysSpec) :=
  OpenClaim.holds_of_wide 26 Try.f26 rfl rfl rfl rfl rfl rfl rfl ⟨rfl, rfl, rfl, rfl, rfl⟩ rfl rfl rfl rfl rfl named_ there_ closed_ inst_ wrap_
    (fun os started H enc _ => lifted os started H enc)

theorem proved : Rows.TriPlaysSaid := over

#print axioms proved

end Go.Proofs.Ytjpppdacamhhfaa.triPlays
