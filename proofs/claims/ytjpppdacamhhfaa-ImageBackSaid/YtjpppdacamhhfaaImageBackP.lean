/- The statement 'ImageBack' of the given program, proved. Conditions: none. -/
import Derived.Test.YtjpppdacamhhfaaRows
import Derived.WalkKit
import Derived.ProofKit
import Derived.OpenShut
import Derived.Test.YtjpppdacamhhfaaFacts
import Derived.Test.YtjpppdacamhhfaaFrame
import Derived.Test.YtjpppdacamhhfaaOpen
import Derived.Test.YtjpppdacamhhfaaLawImB
namespace Go.Proofs.Ytjpppdacamhhfaa.imageBack
open Go.ChangeShapes Go.WideShapes Go.ChangeAt Go.RowKit
set_option linter.unusedVariables false

set_option maxRecDepth 100000 in
theorem lifted (os : Os) (started : os.Started) (H : Type) (enc : TypeId × Value → H) :
    ReturnsInHanded {} Try.checked os 19 .any (Rows.imageBackSpec.pre6 enc Try.prog Try.f19 Rows.imageBackRow.domain false) (Rows.imageBackSpec.post enc Try.prog Try.f19 false true false false) := by
  refine returnsInHanded_of_change (C := Try.checked) fOwn started (by kernel_rfl) Try.func19
    (ChangeSpec.witness6 (enc := enc) (C := Try.checked) false ⟨#[], #[.slice none 0 0, .agg #[.slice none 0 0], .slice none 0 0], []⟩ 8 (by kernel_rfl) (by kernel_rfl) (by kernel_rfl) (by kernel_rfl)) ?_
  intro W base args ds gs before hval0 hW hcnd _
  have hval : ∀ (j : Nat) t v, Try.f19.params[j]? = some t → args[j]? = some v → Value.okWide Try.prog W .any base t v := hval0
  have hW' := hW
  obtain ⟨p, q, hA0, hV, rfl, hfz, hnd⟩ := hW
  have hA : DataW.TrodAll enc Try.prog W 0 (fun _ => true) true Try.f19.params.toList args.toList ds p := hA0
  rw [Try.params19] at hA hval
  obtain ⟨v0, vs0, d0, ds0, p0, q0, hargs, rfl, rfl, h0, r0⟩ := trodAll_cons hA
  obtain ⟨v1, vs1, d1, ds1, p1, q1, rfl, rfl, rfl, h1, r1⟩ := trodAll_cons r0
  obtain ⟨v2, vs2, d2, ds2, p2, q2, rfl, rfl, rfl, h2, r2⟩ := trodAll_cons r1
  obtain ⟨rfl, rfl, rfl⟩ := trodAll_nil r2
  obtain rfl : args = #[v0, v1, v2] := by cases args; simp_all
  obtain ⟨rfl, rfl⟩ := trodVars_none hV
  obtain ⟨A0, xs0, c0, rfl, cap0, i0, m0, len0⟩ := open_bytes (hval 0 70 v0 rfl rfl) h0
  obtain ⟨A1, xs1, c1, rfl, cap1, i1, m1, len1⟩ := open_heap (hval 1 33 v1 rfl rfl) h1
  obtain ⟨A2, xs2, c2, rfl, cap2, i2, m2, len2⟩ := open_list (hval 2 22 v2 rfl rfl) h2
  clear hA0 hval0
  simp only [List.append_nil] at hW'
  refine (imageBack_walk xs0 A0 c0 xs1 A1 c1 xs2 A2 c2 W m0 cap0 i0 len0 m1 cap1 i1 len1 m2 cap2 i2 len2).mono fun e W' ⟨he, hg⟩ => ?_
  subst he
  refine ⟨_, rfl, post_of_below (pa := (p0 ++ (p1 ++ (p2 ++ [])))) (pv := []) hW' (fun _ _ _ => (trodAll_cons_mk (shut_bool Try.underlying4 _) trodAll_mk0)) (trodAll_cons_mk (stays_bytes h0 hg (fun x hx => hW'.lt x (by simp [hx]))) (trodAll_cons_mk (stays_heap h1 hg (fun x hx => hW'.lt x (by simp [hx]))) (trodAll_cons_mk (stays_list h2 hg (fun x hx => hW'.lt x (by simp [hx]))) trodAll_mk0))) rfl (by simp) hg⟩

theorem k1 : Rows.imageBackRow.wf (OpenSpec.ofChange Rows.imageBackSpec) = true := by kernel_rfl
theorem k2 : Try.f19.params.all (Try.prog.readableRec ·) = true := by kernel_rfl
theorem k3 : namedTie Try.prog Rows.imageBackRow.named Rows.imageBackSpec.vars = true := by kernel_rfl
theorem k4 : (Rows.imageBackRow.stops == []) = true := by kernel_rfl
theorem k5 : (Rows.imageBackRow.knobs == []) = true := by kernel_rfl
theorem k6 : (Rows.imageBackRow.inPlace == Try.prog.inPlace 19) = true := by kernel_rfl
theorem k7 : (Rows.imageBackRow.unfollowed == Try.prog.unfollowed 19) = true := by kernel_rfl
theorem k8 : (Rows.imageBackRow.recurses == Try.prog.recurses 19) = true := by kernel_rfl
theorem k9 : (Rows.imageBackRow.named == Try.prog.varsNamed 19) = true := by kernel_rfl
theorem k10 : (Rows.imageBackRow.maps == (Try.f19.params.toList ++ Rows.imageBackSpec.plain.varTypes Try.prog).any (Try.prog.mapsRec ·)) = true := by kernel_rfl
theorem k11 : (Rows.imageBackRow.ifaces == (Try.f19.params.toList ++ Rows.imageBackSpec.plain.varTypes Try.prog).any (Try.prog.ifacesRec ·)) = true := by kernel_rfl
theorem k12 : (Rows.imageBackRow.mapsOut == Try.prog.mapsAmong Try.f19.resultTypes.toList) = true := by kernel_rfl
theorem k13 : (Rows.imageBackRow.loops == (Try.f19.params.toList ++ Rows.imageBackSpec.plain.varTypes Try.prog).any (Try.prog.loopsFrom ·)) = true := by kernel_rfl
theorem k14 : (Rows.imageBackRow.wideKeys == (Try.f19.params.toList ++ Rows.imageBackSpec.plain.varTypes Try.prog ++ Try.f19.resultTypes.toList).any (Try.prog.wideKeysFrom ·)) = true := by kernel_rfl
theorem k15 : Rows.imageBackSpec.vars.all (Try.prog.varReadable ·) = true := by kernel_rfl
theorem k16 : Try.f19.resultTypes.all (fun t => Try.prog.readableRec t && decide (t < Try.prog.types.size)) = true := by kernel_rfl
theorem k17 : (Rows.imageBackRow.ifacesOut == Try.f19.resultTypes.toList.any (Try.prog.ifacesRec ·)) = true := by kernel_rfl
theorem k18 : (Rows.imageBackRow.loopsOut == Try.f19.resultTypes.toList.any (Try.prog.loopsFrom ·)) = true := by kernel_rfl
theorem k19 : (Rows.imageBackRow.plainKeys == Try.prog.plainKeys) = true := by rw [fKeys]; rfl
theorem k20 : Rows.imageBackRow.shortTexts.isNone = true := by kernel_rfl
theorem k21 : (Rows.imageBackRow.lifted == Try.prog.liftsFinal) = true := by rw [fLifts]; rfl
theorem k22 : (Try.prog.make == some Rows.imageBackRow.make) = true := by rw [fMake]; rfl
theorem k23 : kindsFit Try.prog Try.f19 Rows.imageBackRow = true := by kernel_rfl
theorem k24 : (Rows.imageBackRow.pinned == Rows.imageBackRow.pinnedBy) = true := by kernel_rfl
theorem k25 : (Rows.imageBackRow.veiled == (Try.f19.params.toList ++ Rows.imageBackSpec.plain.varTypes Try.prog ++ Try.f19.resultTypes.toList).any (Try.prog.veiledRec ·)) = true := by kernel_rfl
theorem k26 : Rows.imageBackRow.veiledFits Try.prog Try.f19.params.toList (Try.f19.params.toList ++ Rows.imageBackSpec.plain.varTypes Try.prog ++ Try.f19.resultTypes.toList) = true := by kernel_rfl
theorem named_ : Try.prog.funcNamed Rows.imageBackRow.func = some 19 := by kernel_rfl
theorem there_ : Try.prog.funcs[19]? = some Try.f19 := Try.func19
theorem closed_ : joinedFacts Try.prog 19 Try.f19 Rows.imageBackSpec Rows.imageBackRow = true :=
  facts_of fLaid fMaps fStops fKnobs fHeard fEnter k1 k2 k3 k4 k5 k6 k7 k8 k9 k10 k11 k12 k13 k14 k15 k16 k17 k18 k19 k20 k21 k22 k23 k24 k25 k26

theorem inst_ : Try.f19.isInstance Try.prog Rows.imageBackRow.origin Rows.imageBackRow.targs := of_decide_eq_true (by kernel_rfl)
theorem wrap_ : Try.f19.isWrapper Try.prog Rows.imageBackRow.wrapper Rows.imageBackRow.mainSum := by
  unfold Func.isWrapper
  rw [if_neg (by decide +kernel)]
  exact ⟨rfl, rfl⟩

theorem over : Rows.imageBackRow.holds Try.pinned (OpenSpec.ofChange Rows.imageBackSpec) :=
  OpenClaim.holds_of_wide 19 Try.f19 rfl rfl rfl rfl rfl rfl rfl ⟨rfl, rfl, rfl, rfl, rfl⟩ rfl rfl rfl rfl rfl named_ there_ closed_ inst_ wrap_
    (fun os started H enc _ => lifted os started H enc)

theorem proved : Rows.ImageBackSaid := over

#print axioms proved

end Go.Proofs.Ytjpppdacamhhfaa.imageBack
