/- The statement 'ReachAlike' of the given program, proved. Conditions: none. -/
import Derived.Test.YtjpppdacamhhfaaRows
import Derived.WalkKit
import Derived.ProofKit
import Derived.OpenShut
import Derived.Test.YtjpppdacamhhfaaFacts
import Derived.Test.YtjpppdacamhhfaaFrame
import Derived.Test.YtjpppdacamhhfaaOpen
import Derived.Test.YtjpppdacamhhfaaLawAlike
namespace Go.Proofs.Ytjpppdacamhhfaa.reachAlike
open Go.ChangeShapes Go.WideShapes Go.ChangeAt Go.RowKit
set_option linter.unusedVariables false

set_option maxRecDepth 100000 in
theorem lifted (os : Os) (started : os.Started) (H : Type) (enc : TypeId × Value → H) :
    ReturnsInHanded {} Try.checked os 20 .any (Rows.reachAlikeSpec.pre6 enc Try.prog Try.f20 Rows.reachAlikeRow.domain false) (Rows.reachAlikeSpec.post enc Try.prog Try.f20 false true false false) := by
  refine returnsInHanded_of_change (C := Try.checked) fOwn started (by kernel_rfl) Try.func20
    (ChangeSpec.witness6 (enc := enc) (C := Try.checked) false ⟨#[], #[.agg #[.slice none 0 0], .slice none 0 0, .agg #[.slice none 0 0], .slice none 0 0], []⟩ 8 (by kernel_rfl) (by kernel_rfl) (by kernel_rfl) (by kernel_rfl)) ?_
  intro W base args ds gs before hval0 hW hcnd _
  have hval : ∀ (j : Nat) t v, Try.f20.params[j]? = some t → args[j]? = some v → Value.okWide Try.prog W .any base t v := hval0
  have hW' := hW
  obtain ⟨p, q, hA0, hV, rfl, hfz, hnd⟩ := hW
  have hA : DataW.TrodAll enc Try.prog W 0 (fun _ => true) true Try.f20.params.toList args.toList ds p := hA0
  rw [Try.params20] at hA hval
  obtain ⟨v0, vs0, d0, ds0, p0, q0, hargs, rfl, rfl, h0, r0⟩ := trodAll_cons hA
  obtain ⟨v1, vs1, d1, ds1, p1, q1, rfl, rfl, rfl, h1, r1⟩ := trodAll_cons r0
  obtain ⟨v2, vs2, d2, ds2, p2, q2, rfl, rfl, rfl, h2, r2⟩ := trodAll_cons r1
  obtain ⟨v3, vs3, d3, ds3, p3, q3, rfl, rfl, rfl, h3, r3⟩ := trodAll_cons r2
  obtain ⟨rfl, rfl, rfl⟩ := trodAll_nil r3
  obtain rfl : args = #[v0, v1, v2, v3] := by cases args; simp_all
  obtain ⟨rfl, rfl⟩ := trodVars_none hV
  obtain ⟨A0, xs0, c0, rfl, cap0, i0, m0, len0⟩ := open_heap (hval 0 33 v0 rfl rfl) h0
  obtain ⟨A1, xs1, c1, rfl, cap1, i1, m1, len1⟩ := open_list (hval 1 22 v1 rfl rfl) h1
  obtain ⟨A2, xs2, c2, rfl, cap2, i2, m2, len2⟩ := open_heap (hval 2 33 v2 rfl rfl) h2
  obtain ⟨A3, xs3, c3, rfl, cap3, i3, m3, len3⟩ := open_list (hval 3 22 v3 rfl rfl) h3
  clear hA0 hval0
  simp only [List.append_nil] at hW'
  refine (reachAlike_walk xs0 A0 c0 xs1 A1 c1 xs2 A2 c2 xs3 A3 c3 W m0 cap0 i0 len0 m1 cap1 i1 len1 m2 cap2 i2 len2 m3 cap3 i3 len3).mono fun e W' ⟨he, hg⟩ => ?_
  subst he
  refine ⟨_, rfl, post_of_below (pa := (p0 ++ (p1 ++ (p2 ++ (p3 ++ []))))) (pv := []) hW' (fun _ _ _ => (trodAll_cons_mk (shut_bool Try.underlying4 _) trodAll_mk0)) (trodAll_cons_mk (stays_heap h0 hg (fun x hx => hW'.lt x (by simp [hx]))) (trodAll_cons_mk (stays_list h1 hg (fun x hx => hW'.lt x (by simp [hx]))) (trodAll_cons_mk (stays_heap h2 hg (fun x hx => hW'.lt x (by simp [hx]))) (trodAll_cons_mk (stays_list h3 hg (fun x hx => hW'.lt x (by simp [hx]))) trodAll_mk0)))) rfl (by simp) hg⟩

theorem k1 : Rows.reachAlikeRow.wf (OpenSpec.ofChange Rows.reachAlikeSpec) = true := by kernel_rfl
theorem k2 : Try.f20.params.all (Try.prog.readableRec ·) = true := by kernel_rfl
theorem k3 : namedTie Try.prog Rows.reachAlikeRow.named Rows.reachAlikeSpec.vars = true := by kernel_rfl
theorem k4 : (Rows.reachAlikeRow.stops == []) = true := by kernel_rfl
theorem k5 : (Rows.reachAlikeRow.knobs == []) = true := by kernel_rfl
theorem k6 : (Rows.reachAlikeRow.inPlace == Try.prog.inPlace 20) = true := by kernel_rfl
theorem k7 : (Rows.reachAlikeRow.unfollowed == Try.prog.unfollowed 20) = true := by kernel_rfl
theorem k8 : (Rows.reachAlikeRow.recurses == Try.prog.recurses 20) = true := by kernel_rfl
theorem k9 : (Rows.reachAlikeRow.named == Try.prog.varsNamed 20) = true := by kernel_rfl
theorem k10 : (Rows.reachAlikeRow.maps == (Try.f20.params.toList ++ Rows.reachAlikeSpec.plain.varTypes Try.prog).any (Try.prog.mapsRec ·)) = true := by kernel_rfl
theorem k11 : (Rows.reachAlikeRow.ifaces == (Try.f20.params.toList ++ Rows.reachAlikeSpec.plain.varTypes Try.prog).any (Try.prog.ifacesRec ·)) = true := by kernel_rfl
theorem k12 : (Rows.reachAlikeRow.mapsOut == Try.prog.mapsAmong Try.f20.resultTypes.toList) = true := by kernel_rfl
theorem k13 : (Rows.reachAlikeRow.loops == (Try.f20.params.toList ++ Rows.reachAlikeSpec.plain.varTypes Try.prog).any (Try.prog.loopsFrom ·)) = true := by kernel_rfl
theorem k14 : (Rows.reachAlikeRow.wideKeys == (Try.f20.params.toList ++ Rows.reachAlikeSpec.plain.varTypes Try.prog ++ Try.f20.resultTypes.toList).any (Try.prog.wideKeysFrom ·)) = true := by kernel_rfl
theorem k15 : Rows.reachAlikeSpec.vars.all (Try.prog.varReadable ·) = true := by kernel_rfl
theorem k16 : Try.f20.resultTypes.all (fun t => Try.prog.readableRec t && decide (t < Try.prog.types.size)) = true := by kernel_rfl
theorem k17 : (Rows.reachAlikeRow.ifacesOut == Try.f20.resultTypes.toList.any (Try.prog.ifacesRec ·)) = true := by kernel_rfl
theorem k18 : (Rows.reachAlikeRow.loopsOut == Try.f20.resultTypes.toList.any (Try.prog.loopsFrom ·)) = true := by kernel_rfl
theorem k19 : (Rows.reachAlikeRow.plainKeys == Try.prog.plainKeys) = true := by rw [fKeys]; rfl
theorem k20 : Rows.reachAlikeRow.shortTexts.isNone = true := by kernel_rfl
theorem k21 : (Rows.reachAlikeRow.lifted == Try.prog.liftsFinal) = true := by rw [fLifts]; rfl
theorem k22 : (Try.prog.make == some Rows.reachAlikeRow.make) = true := by rw [fMake]; rfl
theorem k23 : kindsFit Try.prog Try.f20 Rows.reachAlikeRow = true := by kernel_rfl
theorem k24 : (Rows.reachAlikeRow.pinned == Rows.reachAlikeRow.pinnedBy) = true := by kernel_rfl
theorem k25 : (Rows.reachAlikeRow.veiled == (Try.f20.params.toList ++ Rows.reachAlikeSpec.plain.varTypes Try.prog ++ Try.f20.resultTypes.toList).any (Try.prog.veiledRec ·)) = true := by kernel_rfl
theorem k26 : Rows.reachAlikeRow.veiledFits Try.prog Try.f20.params.toList (Try.f20.params.toList ++ Rows.reachAlikeSpec.plain.varTypes Try.prog ++ Try.f20.resultTypes.toList) = true := by kernel_rfl
theorem named_ : Try.prog.funcNamed Rows.reachAlikeRow.func = some 20 := by kernel_rfl
theorem there_ : Try.prog.funcs[20]? = some Try.f20 := Try.func20
theorem closed_ : joinedFacts Try.prog 20 Try.f20 Rows.reachAlikeSpec Rows.reachAlikeRow = true :=
  facts_of fLaid fMaps fStops fKnobs fHeard fEnter k1 k2 k3 k4 k5 k6 k7 k8 k9 k10 k11 k12 k13 k14 k15 k16 k17 k18 k19 k20 k21 k22 k23 k24 k25 k26

theorem inst_ : Try.f20.isInstance Try.prog Rows.reachAlikeRow.origin Rows.reachAlikeRow.targs := of_decide_eq_true (by kernel_rfl)
theorem wrap_ : Try.f20.isWrapper Try.prog Rows.reachAlikeRow.wrapper Rows.reachAlikeRow.mainSum := by
  unfold Func.isWrapper
  rw [if_neg (by decide +kernel)]
  exact ⟨rfl, rfl⟩

theorem over : Rows.reachAlikeRow.holds Try.pinned (OpenSpec.ofChange Rows.reachAlikeSpec) :=
  OpenClaim.holds_of_wide 20 Try.f20 rfl rfl rfl rfl rfl rfl rfl ⟨rfl, rfl, rfl, rfl, rfl⟩ rfl rfl rfl rfl rfl named_ there_ closed_ inst_ wrap_
    (fun os started H enc _ => lifted os started H enc)

theorem proved : Rows.ReachAlikeSaid := over

#print axioms proved

end Go.Proofs.Ytjpppdacamhhfaa.reachAlike
