/- Closed facts of the translated program that every statement's row asks. Conditions: none. -/
import Derived.Test.YtjpppdacamhhfaaRows
import Derived.ProofKit
namespace Go.Proofs.Ytjpppdacamhhfaa

set_option maxRecDepth 100000
def orderCodes : List Nat := [104, 97, 114, 110, 101, 115, 115, 32, 55, 100, 98, 50, 53, 97, 102, 54, 56, 53, 54, 50, 99, 50, 55, 49, 102, 101, 98, 97, 51, 53, 49, 48, 55, 53, 53, 54, 52, 102, 55, 98, 102, 50, 50, 97, 99, 53, 100, 53, 55, 98, 49, 53, 97, 101, 56, 52, 50, 50, 97, 52, 54, 101, 55, 55, 49, 53, 57, 53, 53, 56, 97, 97, 32, 99, 117, 116, 32, 97, 116, 32, 103, 101, 115, 115, 111, 47, 103, 101, 115, 115, 111, 108, 97, 119, 46, 78, 97, 109, 101, 115, 32, 103, 101, 115, 115, 111, 47, 103, 101, 115, 115, 111, 107, 101, 101, 112, 46, 87, 111, 114, 100, 66, 97, 99, 107, 32, 103, 101, 115, 115, 111, 47, 103, 101, 115, 115, 111, 108, 97, 119, 46, 87, 111, 114, 100, 84, 101, 108, 108, 115, 32, 103, 101, 115, 115, 111, 47, 103, 101, 115, 115, 111, 108, 97, 119, 46, 72, 101, 97, 112, 67, 104, 101, 99, 107, 115, 32, 103, 101, 115, 115, 111, 47, 103, 101, 115, 115, 111, 108, 97, 119, 46, 72, 101, 97, 112, 77, 97, 107, 101, 115, 32, 103, 101, 115, 115, 111, 47, 103, 101, 115, 115, 111, 108, 97, 119, 46, 72, 101, 97, 112, 80, 117, 116, 115, 32, 103, 101, 115, 115, 111, 47, 103, 101, 115, 115, 111, 108, 97, 119, 46, 77, 111, 118, 101, 77, 111, 118, 101, 115, 32, 103, 101, 115, 115, 111, 47, 103, 101, 115, 115, 111, 108, 97, 119, 46, 77, 111, 118, 101, 72, 111, 108, 100, 115, 32, 103, 101, 115, 115, 111, 47, 103, 101, 115, 115, 111, 107, 101, 101, 112, 46, 72, 101, 97, 112, 75, 101, 101, 112, 115, 32, 103, 101, 115, 115, 111, 47, 103, 101, 115, 115, 111, 108, 97, 119, 46, 67, 111, 117, 110, 116, 84, 101, 108, 108, 115, 32, 103, 101, 115, 115, 111, 47, 103, 101, 115, 115, 111, 108, 97, 119, 46, 83, 119, 101, 101, 112, 67, 111, 108, 108, 101, 99, 116, 115, 32, 103, 101, 115, 115, 111, 47, 103, 101, 115, 115, 111, 108, 97, 119, 46, 83, 119, 101, 101, 112, 72, 111, 108, 100, 115, 32, 103, 101, 115, 115, 111, 47, 103, 101, 115, 115, 111, 108, 97, 119, 46, 66, 101, 99, 111, 109, 101, 68, 111, 101, 115, 32, 103, 101, 115, 115, 111, 47, 103, 101, 115, 115, 111, 107, 101, 101, 112, 46, 66, 101, 99, 111, 109, 101, 84, 119, 105, 99, 101, 32, 103, 101, 115, 115, 111, 47, 103, 101, 115, 115, 111, 108, 97, 119, 46, 73, 109, 97, 103, 101, 87, 114, 105, 116, 101, 115, 32, 103, 101, 115, 115, 111, 47, 103, 101, 115, 115, 111, 108, 97, 119, 46, 73, 109, 97, 103, 101, 82, 101, 97, 100, 115, 32, 103, 101, 115, 115, 111, 47, 103, 101, 115, 115, 111, 107, 101, 101, 112, 46, 73, 109, 97, 103, 101, 66, 97, 99, 107, 32, 103, 101, 115, 115, 111, 47, 103, 101, 115, 115, 111, 108, 97, 119, 46, 82, 101, 97, 99, 104, 65, 108, 105, 107, 101, 32, 103, 101, 115, 115, 111, 47, 103, 101, 115, 115, 111, 107, 101, 101, 112, 46, 77, 111, 118, 101, 84, 119, 105, 99, 101, 32, 103, 101, 115, 115, 111, 47, 103, 101, 115, 115, 111, 108, 97, 119, 46, 78, 97, 109, 101, 115, 75, 101, 101, 112, 32, 103, 101, 115, 115, 111, 47, 103, 101, 115, 115, 111, 107, 101, 101, 112, 46, 78, 97, 109, 101, 115, 79, 110, 99, 101, 32, 103, 101, 115, 115, 111, 47, 103, 101, 115, 115, 111, 107, 101, 101, 112, 46, 83, 119, 101, 101, 112, 84, 119, 105, 99, 101, 32, 103, 101, 115, 115, 111, 47, 103, 101, 115, 115, 111, 108, 97, 119, 46, 84, 114, 105, 72, 111, 108, 100, 115, 32, 103, 101, 115, 115, 111, 47, 103, 101, 115, 115, 111, 108, 97, 119, 46, 84, 114, 105, 80, 108, 97, 121, 115, 32, 103, 101, 115, 115, 111, 47, 103, 101, 115, 115, 111, 108, 97, 119, 46, 82, 101, 97, 99, 104, 84, 101, 108, 108, 115, 32, 103, 101, 115, 115, 111, 47, 103, 101, 115, 115, 111, 107, 101, 101, 112, 46, 84, 114, 105, 65, 108, 111, 110, 101]
theorem fOrder : Try.prog.initOrder = String.ofList (orderCodes.map Char.ofNat) := by
  unfold Try.prog
  dsimp only []
  unfold Try.progTables
  dsimp only []
  kernel_rfl
theorem fSigns : Try.prog.initOrder.toList = orderCodes.map Char.ofNat := by rw [fOrder, String.toList_ofList]
theorem fHead : Try.prog.headLifts = [] := by
  unfold Program.headLifts
  rw [fSigns]
  kernel_rfl

theorem fCut1 : ((behindMainWord (wordsSigns (orderCodes.map Char.ofNat))).head? == some "cut".toList) = true := by kernel_rfl
theorem fCut2 : ("cut".toList == "gc".toList) = false := by kernel_rfl
theorem fCut3 : ("cut".toList == "cut".toList) = true := by kernel_rfl
theorem fCut4 : ("cut".toList == "spec".toList) = false := by kernel_rfl
theorem fCut5 : ("cut".toList == "carried".toList) = false := by kernel_rfl
theorem fCut : ∃ r, behindMainWord (wordsSigns (orderCodes.map Char.ofNat)) = "cut".toList :: r := by
  have h2 : ((behindMainWord (wordsSigns (orderCodes.map Char.ofNat))).head?) = some "cut".toList := by simpa using fCut1
  cases h : behindMainWord (wordsSigns (orderCodes.map Char.ofNat)) with
  | nil => rw [h] at h2; cases h2
  | cons c r =>
    rw [h] at h2
    simp only [List.head?_cons, Option.some.injEq] at h2
    subst h2
    exact ⟨r, rfl⟩
theorem make_of {P : Program} {r : List (List Char)} (h : behindMainWord (wordsSigns P.initOrder.toList) = "cut".toList :: r) : P.make = some .cut := by
  unfold Program.make
  rw [h]
  dsimp only []
  rw [if_neg (by rw [fCut2, fCut4]; decide), if_pos (by rw [fCut3, Bool.true_or])]
theorem lifts_of {P : Program} {r : List (List Char)} (h : behindMainWord (wordsSigns P.initOrder.toList) = "cut".toList :: r) (h2 : P.headLifts = []) : P.liftsFinal = false := by
  unfold Program.liftsFinal
  rw [h2, h]
  dsimp only []
  have e : (some "cut".toList == some "carried".toList) = false := fCut5
  rw [List.head?_cons, e, Bool.false_and, Bool.false_or]
  rfl
theorem fMake : Try.prog.make = some .cut := by
  obtain ⟨r, h⟩ := fCut
  exact make_of (r := r) (by rw [fSigns, h])
theorem fLifts : Try.prog.liftsFinal = false := by
  obtain ⟨r, h⟩ := fCut
  exact lifts_of (r := r) (by rw [fSigns, h]) fHead

theorem fOwn : ownKnob Try.prog.godebug = none := by kernel_rfl
theorem fLaid : laidOutB Try.prog = true := by kernel_rfl
theorem fMaps : mapsRowed Try.prog = true := by kernel_rfl
theorem fStops : (Try.prog.stops == []) = true := by kernel_rfl
theorem fKnobs : (Try.prog.stopKnobs == []) = true := by kernel_rfl
theorem fKeys : Try.prog.plainKeys = true := by kernel_rfl
theorem fHeard : Try.prog.stopsHeard = true := by kernel_rfl
theorem fEnter : Try.prog.mayEnter = true := by kernel_rfl

def kindsFit (P : Program) (fn : Func) (c : OpenClaim) : Bool := (c.kinds == (if c.domain.isEmpty then [] else fn.params.toList.map fun t => match P.underlying t with | some (.int k) => some k | _ => none))

/-- All that a row's facts are, part by part. -/
theorem facts_of {P : Program} {f : FuncId} {fn : Func} {s : ChangeSpec} {c : OpenClaim}
    (p1 : laidOutB P = true) (p2 : mapsRowed P = true) (p3 : (P.stops == []) = true) (p4 : (P.stopKnobs == []) = true) (p5 : P.stopsHeard = true) (p6 : P.mayEnter = true)
    (k1 : c.wf (OpenSpec.ofChange s) = true) (k2 : fn.params.all (P.readableRec ·) = true) (k3 : namedTie P c.named s.vars = true)
    (k4 : (c.stops == []) = true) (k5 : (c.knobs == []) = true) (k6 : (c.inPlace == P.inPlace f) = true) (k7 : (c.unfollowed == P.unfollowed f) = true) (k8 : (c.recurses == P.recurses f) = true) (k9 : (c.named == P.varsNamed f) = true)
    (k10 : (c.maps == (fn.params.toList ++ s.plain.varTypes P).any (P.mapsRec ·)) = true) (k11 : (c.ifaces == (fn.params.toList ++ s.plain.varTypes P).any (P.ifacesRec ·)) = true) (k12 : (c.mapsOut == P.mapsAmong fn.resultTypes.toList) = true)
    (k13 : (c.loops == (fn.params.toList ++ s.plain.varTypes P).any (P.loopsFrom ·)) = true) (k14 : (c.wideKeys == (fn.params.toList ++ s.plain.varTypes P ++ fn.resultTypes.toList).any (P.wideKeysFrom ·)) = true)
    (k15 : s.vars.all (P.varReadable ·) = true) (k16 : fn.resultTypes.all (fun t => P.readableRec t && decide (t < P.types.size)) = true) (k17 : (c.ifacesOut == fn.resultTypes.toList.any (P.ifacesRec ·)) = true) (k18 : (c.loopsOut == fn.resultTypes.toList.any (P.loopsFrom ·)) = true)
    (k19 : (c.plainKeys == P.plainKeys) = true) (k20 : c.shortTexts.isNone = true) (k21 : (c.lifted == P.liftsFinal) = true) (k22 : (P.make == some c.make) = true)
    (k23 : kindsFit P fn c = true) (k24 : (c.pinned == c.pinnedBy) = true)
    (k25 : (c.veiled == (fn.params.toList ++ s.plain.varTypes P ++ fn.resultTypes.toList).any (P.veiledRec ·)) = true) (k26 : c.veiledFits P fn.params.toList (fn.params.toList ++ s.plain.varTypes P ++ fn.resultTypes.toList) = true) :
    joinedFacts P f fn s c = true := by
  unfold joinedFacts
  simp only [Bool.and_eq_true]
  exact ⟨⟨⟨⟨⟨⟨⟨⟨⟨⟨⟨⟨⟨⟨⟨⟨⟨⟨⟨⟨⟨⟨⟨⟨⟨⟨⟨⟨⟨⟨⟨k1, p1⟩, p2⟩, k2⟩, k3⟩, k4⟩, p3⟩, k5⟩, p4⟩, k6⟩, k7⟩, k8⟩, k9⟩, k10⟩, k11⟩, k12⟩, k13⟩, k14⟩, k15⟩, k16⟩, k17⟩, k18⟩, k19⟩, k20⟩, p5⟩, p6⟩, k21⟩, k22⟩, k23⟩, k24⟩, k25⟩, k26⟩

end Go.Proofs.Ytjpppdacamhhfaa
