/-
  No cell of these rows narrows 'for every input' (looked for: loops, veiled, ifaces, maps, wideKeys, modest, calm, conditions, laid).
  DERIVED. THE GIVEN ROWS OF THIS SEAT. 26 by the template 'for every input the law returns true; each argument reads behind the call as it read before'; 0 by the template 'total and deterministic' (their statements: YtjpppdacamhhfaaTotals.lean).
  GIVEN WITH THE SEED: the statements are not yours to turn. If you find one false, say at which input.
  Laid BY PROGRAM, IN A SANDBOX (cutbox-rows.mjs): the forced cells as the released guide's own fill.sh prints them over the translation eb8da421b04878d3… (all of the seat's roots in one cut). By AI agents, Wed Nov 11 2026. No macro, syntax, notation, axiom, sorry.
-/
import Derived.Test.YtjpppdacamhhfaaChecked
import GoSem.Claim
import GoSem.ClaimJoined
import GoSem.ClaimMapViews
import Derived.JoinedTies
import Derived.KernelRfl
namespace Go.Proofs.Ytjpppdacamhhfaa
/- THE CELL 'sum', in the pinned program and in every row, IS THE sha256 OF THE DUMP (.gsa) THAT YtjpppdacamhhfaaProg.lean LOADS. Nothing in Lean hashes anything: it is a label: what it is worth is what the hold of that sum in a sandbox is worth. -/
noncomputable def Try.pinned : Pinned := { name := "ytjpppdacamhhfaa", sum := "eb8da421b04878d30067bdb06c6ad2a2bfc55cfcf3192419753faceab60b2bcf", checked := Try.checked }
namespace Rows
def none {H : Type} : Left H := { results := [], args := [] }

/-- 'gessolaw.Names': WHATEVER THE INPUT: true; the input reads as it did. -/
def namesSpec : ChangeSpec := { name := "names", fn := fun _ => fun
  | [] => { results := [.lit (.bool true)], args := [] }
  | _ => none }
def namesRow : OpenClaim := { program := "ytjpppdacamhhfaa", sum := "eb8da421b04878d30067bdb06c6ad2a2bfc55cfcf3192419753faceab60b2bcf", func := "gesso/gessolaw.Names", spec := "names", apart := false }
def NamesSaid : Prop := namesRow.holds Try.pinned (OpenSpec.ofChange namesSpec)

/-- ITS FALSE NEIGHBOUR: 'it returns false'. Refute it at one input. -/
def namesWrong : ChangeSpec := { name := "names", fn := fun _ => fun
  | [] => { results := [.lit (.bool false)], args := [] }
  | _ => none }
def NamesWrongFalsely : Prop := namesRow.holds Try.pinned (OpenSpec.ofChange namesWrong)

/-- 'gessokeep.WordBack': WHATEVER THE INPUT: true; the input reads as it did. -/
def wordBackSpec : ChangeSpec := { name := "wordBack", fn := fun _ => fun
  | [d1, d2] => { results := [.lit (.bool true)], args := [d1, d2] }
  | _ => none }
def wordBackRow : OpenClaim := { program := "ytjpppdacamhhfaa", sum := "eb8da421b04878d30067bdb06c6ad2a2bfc55cfcf3192419753faceab60b2bcf", func := "gesso/gessokeep.WordBack", spec := "wordBack", unfollowed := true, recurses := true, apart := false }
def WordBackSaid : Prop := wordBackRow.holds Try.pinned (OpenSpec.ofChange wordBackSpec)

/-- ITS FALSE NEIGHBOUR: 'it returns false'. Refute it at one input. -/
def wordBackWrong : ChangeSpec := { name := "wordBack", fn := fun _ => fun
  | [d1, d2] => { results := [.lit (.bool false)], args := [d1, d2] }
  | _ => none }
def WordBackWrongFalsely : Prop := wordBackRow.holds Try.pinned (OpenSpec.ofChange wordBackWrong)

/-- 'gessolaw.WordTells': WHATEVER THE INPUT: true; the input reads as it did. -/
def wordTellsSpec : ChangeSpec := { name := "wordTells", fn := fun _ => fun
  | [d1, d2] => { results := [.lit (.bool true)], args := [d1, d2] }
  | _ => none }
def wordTellsRow : OpenClaim := { program := "ytjpppdacamhhfaa", sum := "eb8da421b04878d30067bdb06c6ad2a2bfc55cfcf3192419753faceab60b2bcf", func := "gesso/gessolaw.WordTells", spec := "wordTells", unfollowed := true, recurses := true, apart := false }
def WordTellsSaid : Prop := wordTellsRow.holds Try.pinned (OpenSpec.ofChange wordTellsSpec)

/-- ITS FALSE NEIGHBOUR: 'it returns false'. Refute it at one input. -/
def wordTellsWrong : ChangeSpec := { name := "wordTells", fn := fun _ => fun
  | [d1, d2] => { results := [.lit (.bool false)], args := [d1, d2] }
  | _ => none }
def WordTellsWrongFalsely : Prop := wordTellsRow.holds Try.pinned (OpenSpec.ofChange wordTellsWrong)

/-- 'gessolaw.HeapChecks': WHATEVER THE INPUT: true; the input reads as it did. -/
def heapChecksSpec : ChangeSpec := { name := "heapChecks", fn := fun _ => fun
  | [d] => { results := [.lit (.bool true)], args := [d] }
  | _ => none }
def heapChecksRow : OpenClaim := { program := "ytjpppdacamhhfaa", sum := "eb8da421b04878d30067bdb06c6ad2a2bfc55cfcf3192419753faceab60b2bcf", func := "gesso/gessolaw.HeapChecks", spec := "heapChecks", apart := false }
def HeapChecksSaid : Prop := heapChecksRow.holds Try.pinned (OpenSpec.ofChange heapChecksSpec)

/-- ITS FALSE NEIGHBOUR: 'it returns false'. Refute it at one input. -/
def heapChecksWrong : ChangeSpec := { name := "heapChecks", fn := fun _ => fun
  | [d] => { results := [.lit (.bool false)], args := [d] }
  | _ => none }
def HeapChecksWrongFalsely : Prop := heapChecksRow.holds Try.pinned (OpenSpec.ofChange heapChecksWrong)

/-- 'gessolaw.HeapMakes': WHATEVER THE INPUT: true; the input reads as it did. -/
def heapMakesSpec : ChangeSpec := { name := "heapMakes", fn := fun _ => fun
  | [d1, d2, d3, d4] => { results := [.lit (.bool true)], args := [d1, d2, d3, d4] }
  | _ => none }
def heapMakesRow : OpenClaim := { program := "ytjpppdacamhhfaa", sum := "eb8da421b04878d30067bdb06c6ad2a2bfc55cfcf3192419753faceab60b2bcf", func := "gesso/gessolaw.HeapMakes", spec := "heapMakes", apart := false }
def HeapMakesSaid : Prop := heapMakesRow.holds Try.pinned (OpenSpec.ofChange heapMakesSpec)

/-- ITS FALSE NEIGHBOUR: 'it returns false'. Refute it at one input. -/
def heapMakesWrong : ChangeSpec := { name := "heapMakes", fn := fun _ => fun
  | [d1, d2, d3, d4] => { results := [.lit (.bool false)], args := [d1, d2, d3, d4] }
  | _ => none }
def HeapMakesWrongFalsely : Prop := heapMakesRow.holds Try.pinned (OpenSpec.ofChange heapMakesWrong)

/-- 'gessolaw.HeapPuts': WHATEVER THE INPUT: true; the input reads as it did. -/
def heapPutsSpec : ChangeSpec := { name := "heapPuts", fn := fun _ => fun
  | [d1, d2, d3, d4] => { results := [.lit (.bool true)], args := [d1, d2, d3, d4] }
  | _ => none }
def heapPutsRow : OpenClaim := { program := "ytjpppdacamhhfaa", sum := "eb8da421b04878d30067bdb06c6ad2a2bfc55cfcf3192419753faceab60b2bcf", func := "gesso/gessolaw.HeapPuts", spec := "heapPuts", apart := false }
def HeapPutsSaid : Prop := heapPutsRow.holds Try.pinned (OpenSpec.ofChange heapPutsSpec)

/-- ITS FALSE NEIGHBOUR: 'it returns false'. Refute it at one input. -/
def heapPutsWrong : ChangeSpec := { name := "heapPuts", fn := fun _ => fun
  | [d1, d2, d3, d4] => { results := [.lit (.bool false)], args := [d1, d2, d3, d4] }
  | _ => none }
def HeapPutsWrongFalsely : Prop := heapPutsRow.holds Try.pinned (OpenSpec.ofChange heapPutsWrong)

/-- 'gessolaw.MoveMoves': WHATEVER THE INPUT: true; the input reads as it did. -/
def moveMovesSpec : ChangeSpec := { name := "moveMoves", fn := fun _ => fun
  | [d1, d2] => { results := [.lit (.bool true)], args := [d1, d2] }
  | _ => none }
def moveMovesRow : OpenClaim := { program := "ytjpppdacamhhfaa", sum := "eb8da421b04878d30067bdb06c6ad2a2bfc55cfcf3192419753faceab60b2bcf", func := "gesso/gessolaw.MoveMoves", spec := "moveMoves", apart := false }
def MoveMovesSaid : Prop := moveMovesRow.holds Try.pinned (OpenSpec.ofChange moveMovesSpec)

/-- ITS FALSE NEIGHBOUR: 'it returns false'. Refute it at one input. -/
def moveMovesWrong : ChangeSpec := { name := "moveMoves", fn := fun _ => fun
  | [d1, d2] => { results := [.lit (.bool false)], args := [d1, d2] }
  | _ => none }
def MoveMovesWrongFalsely : Prop := moveMovesRow.holds Try.pinned (OpenSpec.ofChange moveMovesWrong)

/-- 'gessolaw.MoveHolds': WHATEVER THE INPUT: true; the input reads as it did. -/
def moveHoldsSpec : ChangeSpec := { name := "moveHolds", fn := fun _ => fun
  | [d1, d2] => { results := [.lit (.bool true)], args := [d1, d2] }
  | _ => none }
def moveHoldsRow : OpenClaim := { program := "ytjpppdacamhhfaa", sum := "eb8da421b04878d30067bdb06c6ad2a2bfc55cfcf3192419753faceab60b2bcf", func := "gesso/gessolaw.MoveHolds", spec := "moveHolds", apart := false }
def MoveHoldsSaid : Prop := moveHoldsRow.holds Try.pinned (OpenSpec.ofChange moveHoldsSpec)

/-- ITS FALSE NEIGHBOUR: 'it returns false'. Refute it at one input. -/
def moveHoldsWrong : ChangeSpec := { name := "moveHolds", fn := fun _ => fun
  | [d1, d2] => { results := [.lit (.bool false)], args := [d1, d2] }
  | _ => none }
def MoveHoldsWrongFalsely : Prop := moveHoldsRow.holds Try.pinned (OpenSpec.ofChange moveHoldsWrong)

/-- 'gessokeep.HeapKeeps': WHATEVER THE INPUT: true; the input reads as it did. -/
def heapKeepsSpec : ChangeSpec := { name := "heapKeeps", fn := fun _ => fun
  | [d1, d2, d3, d4] => { results := [.lit (.bool true)], args := [d1, d2, d3, d4] }
  | _ => none }
def heapKeepsRow : OpenClaim := { program := "ytjpppdacamhhfaa", sum := "eb8da421b04878d30067bdb06c6ad2a2bfc55cfcf3192419753faceab60b2bcf", func := "gesso/gessokeep.HeapKeeps", spec := "heapKeeps", apart := false }
def HeapKeepsSaid : Prop := heapKeepsRow.holds Try.pinned (OpenSpec.ofChange heapKeepsSpec)

/-- ITS FALSE NEIGHBOUR: 'it returns false'. Refute it at one input. -/
def heapKeepsWrong : ChangeSpec := { name := "heapKeeps", fn := fun _ => fun
  | [d1, d2, d3, d4] => { results := [.lit (.bool false)], args := [d1, d2, d3, d4] }
  | _ => none }
def HeapKeepsWrongFalsely : Prop := heapKeepsRow.holds Try.pinned (OpenSpec.ofChange heapKeepsWrong)

/-- 'gessolaw.CountTells': WHATEVER THE INPUT: true; the input reads as it did. -/
def countTellsSpec : ChangeSpec := { name := "countTells", fn := fun _ => fun
  | [d1, d2] => { results := [.lit (.bool true)], args := [d1, d2] }
  | _ => none }
def countTellsRow : OpenClaim := { program := "ytjpppdacamhhfaa", sum := "eb8da421b04878d30067bdb06c6ad2a2bfc55cfcf3192419753faceab60b2bcf", func := "gesso/gessolaw.CountTells", spec := "countTells", unfollowed := true, recurses := true, apart := false }
def CountTellsSaid : Prop := countTellsRow.holds Try.pinned (OpenSpec.ofChange countTellsSpec)

/-- ITS FALSE NEIGHBOUR: 'it returns false'. Refute it at one input. -/
def countTellsWrong : ChangeSpec := { name := "countTells", fn := fun _ => fun
  | [d1, d2] => { results := [.lit (.bool false)], args := [d1, d2] }
  | _ => none }
def CountTellsWrongFalsely : Prop := countTellsRow.holds Try.pinned (OpenSpec.ofChange countTellsWrong)

/-- 'gessolaw.SweepCollects': WHATEVER THE INPUT: true; the input reads as it did. -/
def sweepCollectsSpec : ChangeSpec := { name := "sweepCollects", fn := fun _ => fun
  | [d1, d2] => { results := [.lit (.bool true)], args := [d1, d2] }
  | _ => none }
def sweepCollectsRow : OpenClaim := { program := "ytjpppdacamhhfaa", sum := "eb8da421b04878d30067bdb06c6ad2a2bfc55cfcf3192419753faceab60b2bcf", func := "gesso/gessolaw.SweepCollects", spec := "sweepCollects", unfollowed := true, recurses := true, apart := false }
def SweepCollectsSaid : Prop := sweepCollectsRow.holds Try.pinned (OpenSpec.ofChange sweepCollectsSpec)

/-- ITS FALSE NEIGHBOUR: 'it returns false'. Refute it at one input. -/
def sweepCollectsWrong : ChangeSpec := { name := "sweepCollects", fn := fun _ => fun
  | [d1, d2] => { results := [.lit (.bool false)], args := [d1, d2] }
  | _ => none }
def SweepCollectsWrongFalsely : Prop := sweepCollectsRow.holds Try.pinned (OpenSpec.ofChange sweepCollectsWrong)

/-- 'gessolaw.SweepHolds': WHATEVER THE INPUT: true; the input reads as it did. -/
def sweepHoldsSpec : ChangeSpec := { name := "sweepHolds", fn := fun _ => fun
  | [d1, d2] => { results := [.lit (.bool true)], args := [d1, d2] }
  | _ => none }
def sweepHoldsRow : OpenClaim := { program := "ytjpppdacamhhfaa", sum := "eb8da421b04878d30067bdb06c6ad2a2bfc55cfcf3192419753faceab60b2bcf", func := "gesso/gessolaw.SweepHolds", spec := "sweepHolds", unfollowed := true, recurses := true, apart := false }
def SweepHoldsSaid : Prop := sweepHoldsRow.holds Try.pinned (OpenSpec.ofChange sweepHoldsSpec)

/-- ITS FALSE NEIGHBOUR: 'it returns false'. Refute it at one input. -/
def sweepHoldsWrong : ChangeSpec := { name := "sweepHolds", fn := fun _ => fun
  | [d1, d2] => { results := [.lit (.bool false)], args := [d1, d2] }
  | _ => none }
def SweepHoldsWrongFalsely : Prop := sweepHoldsRow.holds Try.pinned (OpenSpec.ofChange sweepHoldsWrong)

/-- 'gessolaw.BecomeDoes': WHATEVER THE INPUT: true; the input reads as it did. -/
def becomeDoesSpec : ChangeSpec := { name := "becomeDoes", fn := fun _ => fun
  | [d1, d2, d3, d4] => { results := [.lit (.bool true)], args := [d1, d2, d3, d4] }
  | _ => none }
def becomeDoesRow : OpenClaim := { program := "ytjpppdacamhhfaa", sum := "eb8da421b04878d30067bdb06c6ad2a2bfc55cfcf3192419753faceab60b2bcf", func := "gesso/gessolaw.BecomeDoes", spec := "becomeDoes", unfollowed := true, recurses := true, apart := false }
def BecomeDoesSaid : Prop := becomeDoesRow.holds Try.pinned (OpenSpec.ofChange becomeDoesSpec)

/-- ITS FALSE NEIGHBOUR: 'it returns false'. Refute it at one input. -/
def becomeDoesWrong : ChangeSpec := { name := "becomeDoes", fn := fun _ => fun
  | [d1, d2, d3, d4] => { results := [.lit (.bool false)], args := [d1, d2, d3, d4] }
  | _ => none }
def BecomeDoesWrongFalsely : Prop := becomeDoesRow.holds Try.pinned (OpenSpec.ofChange becomeDoesWrong)

/-- 'gessokeep.BecomeTwice': WHATEVER THE INPUT: true; the input reads as it did. -/
def becomeTwiceSpec : ChangeSpec := { name := "becomeTwice", fn := fun _ => fun
  | [d1, d2, d3, d4] => { results := [.lit (.bool true)], args := [d1, d2, d3, d4] }
  | _ => none }
def becomeTwiceRow : OpenClaim := { program := "ytjpppdacamhhfaa", sum := "eb8da421b04878d30067bdb06c6ad2a2bfc55cfcf3192419753faceab60b2bcf", func := "gesso/gessokeep.BecomeTwice", spec := "becomeTwice", unfollowed := true, recurses := true, apart := false }
def BecomeTwiceSaid : Prop := becomeTwiceRow.holds Try.pinned (OpenSpec.ofChange becomeTwiceSpec)

/-- ITS FALSE NEIGHBOUR: 'it returns false'. Refute it at one input. -/
def becomeTwiceWrong : ChangeSpec := { name := "becomeTwice", fn := fun _ => fun
  | [d1, d2, d3, d4] => { results := [.lit (.bool false)], args := [d1, d2, d3, d4] }
  | _ => none }
def BecomeTwiceWrongFalsely : Prop := becomeTwiceRow.holds Try.pinned (OpenSpec.ofChange becomeTwiceWrong)

/-- 'gessolaw.ImageWrites': WHATEVER THE INPUT: true; the input reads as it did. -/
def imageWritesSpec : ChangeSpec := { name := "imageWrites", fn := fun _ => fun
  | [d1, d2] => { results := [.lit (.bool true)], args := [d1, d2] }
  | _ => none }
def imageWritesRow : OpenClaim := { program := "ytjpppdacamhhfaa", sum := "eb8da421b04878d30067bdb06c6ad2a2bfc55cfcf3192419753faceab60b2bcf", func := "gesso/gessolaw.ImageWrites", spec := "imageWrites", unfollowed := true, recurses := true, apart := false }
def ImageWritesSaid : Prop := imageWritesRow.holds Try.pinned (OpenSpec.ofChange imageWritesSpec)

/-- ITS FALSE NEIGHBOUR: 'it returns false'. Refute it at one input. -/
def imageWritesWrong : ChangeSpec := { name := "imageWrites", fn := fun _ => fun
  | [d1, d2] => { results := [.lit (.bool false)], args := [d1, d2] }
  | _ => none }
def ImageWritesWrongFalsely : Prop := imageWritesRow.holds Try.pinned (OpenSpec.ofChange imageWritesWrong)

/-- 'gessolaw.ImageReads': WHATEVER THE INPUT: true; the input reads as it did. -/
def imageReadsSpec : ChangeSpec := { name := "imageReads", fn := fun _ => fun
  | [d] => { results := [.lit (.bool true)], args := [d] }
  | _ => none }
def imageReadsRow : OpenClaim := { program := "ytjpppdacamhhfaa", sum := "eb8da421b04878d30067bdb06c6ad2a2bfc55cfcf3192419753faceab60b2bcf", func := "gesso/gessolaw.ImageReads", spec := "imageReads", unfollowed := true, recurses := true, apart := false }
def ImageReadsSaid : Prop := imageReadsRow.holds Try.pinned (OpenSpec.ofChange imageReadsSpec)

/-- ITS FALSE NEIGHBOUR: 'it returns false'. Refute it at one input. -/
def imageReadsWrong : ChangeSpec := { name := "imageReads", fn := fun _ => fun
  | [d] => { results := [.lit (.bool false)], args := [d] }
  | _ => none }
def ImageReadsWrongFalsely : Prop := imageReadsRow.holds Try.pinned (OpenSpec.ofChange imageReadsWrong)

/-- 'gessokeep.ImageBack': WHATEVER THE INPUT: true; the input reads as it did. -/
def imageBackSpec : ChangeSpec := { name := "imageBack", fn := fun _ => fun
  | [d1, d2, d3] => { results := [.lit (.bool true)], args := [d1, d2, d3] }
  | _ => none }
def imageBackRow : OpenClaim := { program := "ytjpppdacamhhfaa", sum := "eb8da421b04878d30067bdb06c6ad2a2bfc55cfcf3192419753faceab60b2bcf", func := "gesso/gessokeep.ImageBack", spec := "imageBack", unfollowed := true, recurses := true, apart := false }
def ImageBackSaid : Prop := imageBackRow.holds Try.pinned (OpenSpec.ofChange imageBackSpec)

/-- ITS FALSE NEIGHBOUR: 'it returns false'. Refute it at one input. -/
def imageBackWrong : ChangeSpec := { name := "imageBack", fn := fun _ => fun
  | [d1, d2, d3] => { results := [.lit (.bool false)], args := [d1, d2, d3] }
  | _ => none }
def ImageBackWrongFalsely : Prop := imageBackRow.holds Try.pinned (OpenSpec.ofChange imageBackWrong)

/-- 'gessolaw.ReachAlike': WHATEVER THE INPUT: true; the input reads as it did. -/
def reachAlikeSpec : ChangeSpec := { name := "reachAlike", fn := fun _ => fun
  | [d1, d2, d3, d4] => { results := [.lit (.bool true)], args := [d1, d2, d3, d4] }
  | _ => none }
def reachAlikeRow : OpenClaim := { program := "ytjpppdacamhhfaa", sum := "eb8da421b04878d30067bdb06c6ad2a2bfc55cfcf3192419753faceab60b2bcf", func := "gesso/gessolaw.ReachAlike", spec := "reachAlike", unfollowed := true, recurses := true, apart := false }
def ReachAlikeSaid : Prop := reachAlikeRow.holds Try.pinned (OpenSpec.ofChange reachAlikeSpec)

/-- ITS FALSE NEIGHBOUR: 'it returns false'. Refute it at one input. -/
def reachAlikeWrong : ChangeSpec := { name := "reachAlike", fn := fun _ => fun
  | [d1, d2, d3, d4] => { results := [.lit (.bool false)], args := [d1, d2, d3, d4] }
  | _ => none }
def ReachAlikeWrongFalsely : Prop := reachAlikeRow.holds Try.pinned (OpenSpec.ofChange reachAlikeWrong)

/-- 'gessokeep.MoveTwice': WHATEVER THE INPUT: true; the input reads as it did. -/
def moveTwiceSpec : ChangeSpec := { name := "moveTwice", fn := fun _ => fun
  | [d1, d2] => { results := [.lit (.bool true)], args := [d1, d2] }
  | _ => none }
def moveTwiceRow : OpenClaim := { program := "ytjpppdacamhhfaa", sum := "eb8da421b04878d30067bdb06c6ad2a2bfc55cfcf3192419753faceab60b2bcf", func := "gesso/gessokeep.MoveTwice", spec := "moveTwice", unfollowed := true, recurses := true, apart := false }
def MoveTwiceSaid : Prop := moveTwiceRow.holds Try.pinned (OpenSpec.ofChange moveTwiceSpec)

/-- ITS FALSE NEIGHBOUR: 'it returns false'. Refute it at one input. -/
def moveTwiceWrong : ChangeSpec := { name := "moveTwice", fn := fun _ => fun
  | [d1, d2] => { results := [.lit (.bool false)], args := [d1, d2] }
  | _ => none }
def MoveTwiceWrongFalsely : Prop := moveTwiceRow.holds Try.pinned (OpenSpec.ofChange moveTwiceWrong)

/-- 'gessolaw.NamesKeep': WHATEVER THE INPUT: true; the input reads as it did. -/
def namesKeepSpec : ChangeSpec := { name := "namesKeep", fn := fun _ => fun
  | [d1, d2, d3, d4] => { results := [.lit (.bool true)], args := [d1, d2, d3, d4] }
  | _ => none }
def namesKeepRow : OpenClaim := { program := "ytjpppdacamhhfaa", sum := "eb8da421b04878d30067bdb06c6ad2a2bfc55cfcf3192419753faceab60b2bcf", func := "gesso/gessolaw.NamesKeep", spec := "namesKeep", unfollowed := true, recurses := true, apart := false }
def NamesKeepSaid : Prop := namesKeepRow.holds Try.pinned (OpenSpec.ofChange namesKeepSpec)

/-- ITS FALSE NEIGHBOUR: 'it returns false'. Refute it at one input. -/
def namesKeepWrong : ChangeSpec := { name := "namesKeep", fn := fun _ => fun
  | [d1, d2, d3, d4] => { results := [.lit (.bool false)], args := [d1, d2, d3, d4] }
  | _ => none }
def NamesKeepWrongFalsely : Prop := namesKeepRow.holds Try.pinned (OpenSpec.ofChange namesKeepWrong)

/-- 'gessokeep.NamesOnce': WHATEVER THE INPUT: true; the input reads as it did. -/
def namesOnceSpec : ChangeSpec := { name := "namesOnce", fn := fun _ => fun
  | [d1, d2, d3, d4] => { results := [.lit (.bool true)], args := [d1, d2, d3, d4] }
  | _ => none }
def namesOnceRow : OpenClaim := { program := "ytjpppdacamhhfaa", sum := "eb8da421b04878d30067bdb06c6ad2a2bfc55cfcf3192419753faceab60b2bcf", func := "gesso/gessokeep.NamesOnce", spec := "namesOnce", unfollowed := true, recurses := true, apart := false }
def NamesOnceSaid : Prop := namesOnceRow.holds Try.pinned (OpenSpec.ofChange namesOnceSpec)

/-- ITS FALSE NEIGHBOUR: 'it returns false'. Refute it at one input. -/
def namesOnceWrong : ChangeSpec := { name := "namesOnce", fn := fun _ => fun
  | [d1, d2, d3, d4] => { results := [.lit (.bool false)], args := [d1, d2, d3, d4] }
  | _ => none }
def NamesOnceWrongFalsely : Prop := namesOnceRow.holds Try.pinned (OpenSpec.ofChange namesOnceWrong)

/-- 'gessokeep.SweepTwice': WHATEVER THE INPUT: true; the input reads as it did. -/
def sweepTwiceSpec : ChangeSpec := { name := "sweepTwice", fn := fun _ => fun
  | [d1, d2] => { results := [.lit (.bool true)], args := [d1, d2] }
  | _ => none }
def sweepTwiceRow : OpenClaim := { program := "ytjpppdacamhhfaa", sum := "eb8da421b04878d30067bdb06c6ad2a2bfc55cfcf3192419753faceab60b2bcf", func := "gesso/gessokeep.SweepTwice", spec := "sweepTwice", unfollowed := true, recurses := true, apart := false }
def SweepTwiceSaid : Prop := sweepTwiceRow.holds Try.pinned (OpenSpec.ofChange sweepTwiceSpec)

/-- ITS FALSE NEIGHBOUR: 'it returns false'. Refute it at one input. -/
def sweepTwiceWrong : ChangeSpec := { name := "sweepTwice", fn := fun _ => fun
  | [d1, d2] => { results := [.lit (.bool false)], args := [d1, d2] }
  | _ => none }
def SweepTwiceWrongFalsely : Prop := sweepTwiceRow.holds Try.pinned (OpenSpec.ofChange sweepTwiceWrong)

/-- 'gessolaw.TriHolds': WHATEVER THE INPUT: true; the input reads as it did. -/
def triHoldsSpec : ChangeSpec := { name := "triHolds", fn := fun _ => fun
  | [d1, d2, d3] => { results := [.lit (.bool true)], args := [d1, d2, d3] }
  | _ => none }
def triHoldsRow : OpenClaim := { program := "ytjpppdacamhhfaa", sum := "eb8da421b04878d30067bdb06c6ad2a2bfc55cfcf3192419753faceab60b2bcf", func := "gesso/gessolaw.TriHolds", spec := "triHolds", apart := false }
def TriHoldsSaid : Prop := triHoldsRow.holds Try.pinned (OpenSpec.ofChange triHoldsSpec)

/-- ITS FALSE NEIGHBOUR: 'it returns false'. Refute it at one input. -/
def triHoldsWrong : ChangeSpec := { name := "triHolds", fn := fun _ => fun
  | [d1, d2, d3] => { results := [.lit (.bool false)], args := [d1, d2, d3] }
  | _ => none }
def TriHoldsWrongFalsely : Prop := triHoldsRow.holds Try.pinned (OpenSpec.ofChange triHoldsWrong)

/-- 'gessolaw.TriPlays': WHATEVER THE INPUT: true; the input reads as it did. -/
def triPlaysSpec : ChangeSpec := { name := "triPlays", fn := fun _ => fun
  | [d1, d2, d3] => { results := [.lit (.bool true)], args := [d1, d2, d3] }
  | _ => none }
def triPlaysRow : OpenClaim := { program := "ytjpppdacamhhfaa", sum := "eb8da421b04878d30067bdb06c6ad2a2bfc55cfcf3192419753faceab60b2bcf", func := "gesso/gessolaw.TriPlays", spec := "triPlays", apart := false }
def TriPlaysSaid : Prop := triPlaysRow.holds Try.pinned (OpenSpec.ofChange triPlaysSpec)

/-- ITS FALSE NEIGHBOUR: 'it returns false'. Refute it at one input. -/
def triPlaysWrong : ChangeSpec := { name := "triPlays", fn := fun _ => fun
  | [d1, d2, d3] => { results := [.lit (.bool false)], args := [d1, d2, d3] }
  | _ => none }
def TriPlaysWrongFalsely : Prop := triPlaysRow.holds Try.pinned (OpenSpec.ofChange triPlaysWrong)

/-- 'gessolaw.ReachTells': WHATEVER THE INPUT: true; the input reads as it did. -/
def reachTellsSpec : ChangeSpec := { name := "reachTells", fn := fun _ => fun
  | [d1, d2] => { results := [.lit (.bool true)], args := [d1, d2] }
  | _ => none }
def reachTellsRow : OpenClaim := { program := "ytjpppdacamhhfaa", sum := "eb8da421b04878d30067bdb06c6ad2a2bfc55cfcf3192419753faceab60b2bcf", func := "gesso/gessolaw.ReachTells", spec := "reachTells", unfollowed := true, recurses := true, apart := false }
def ReachTellsSaid : Prop := reachTellsRow.holds Try.pinned (OpenSpec.ofChange reachTellsSpec)

/-- ITS FALSE NEIGHBOUR: 'it returns false'. Refute it at one input. -/
def reachTellsWrong : ChangeSpec := { name := "reachTells", fn := fun _ => fun
  | [d1, d2] => { results := [.lit (.bool false)], args := [d1, d2] }
  | _ => none }
def ReachTellsWrongFalsely : Prop := reachTellsRow.holds Try.pinned (OpenSpec.ofChange reachTellsWrong)

/-- 'gessokeep.TriAlone': WHATEVER THE INPUT: true; the input reads as it did. -/
def triAloneSpec : ChangeSpec := { name := "triAlone", fn := fun _ => fun
  | [d1, d2] => { results := [.lit (.bool true)], args := [d1, d2] }
  | _ => none }
def triAloneRow : OpenClaim := { program := "ytjpppdacamhhfaa", sum := "eb8da421b04878d30067bdb06c6ad2a2bfc55cfcf3192419753faceab60b2bcf", func := "gesso/gessokeep.TriAlone", spec := "triAlone", unfollowed := true, recurses := true, apart := false }
def TriAloneSaid : Prop := triAloneRow.holds Try.pinned (OpenSpec.ofChange triAloneSpec)

/-- ITS FALSE NEIGHBOUR: 'it returns false'. Refute it at one input. -/
def triAloneWrong : ChangeSpec := { name := "triAlone", fn := fun _ => fun
  | [d1, d2] => { results := [.lit (.bool false)], args := [d1, d2] }
  | _ => none }
def TriAloneWrongFalsely : Prop := triAloneRow.holds Try.pinned (OpenSpec.ofChange triAloneWrong)

/- THE SECOND FORM. 'bulk': how many values and letters a reading holds, each counted each time it is reached (what is shared counts as often as it is met; a slice's spare places count too). A statement '..UptoSaid' is the law's where the arguments, and the package variables that the reading takes, are together of bulk at most 1048576: NARROWER than '..Said'. Prove '..Said' where nothing that the law and all that it calls make is longer than what came in: it says more and counts as full. Else prove '..UptoSaid'. A law counts once. -/
mutual
def uptoBulk {H : Type} : DataW H → Nat
  | .lit (.string bytes) => bytes.length + 1
  | .lit _ => 1
  | .nil => 1
  | .ptr d => uptoBulk d + 1
  | .slice elems spare => uptoBulkAll elems + uptoBulkAll spare + 1
  | .agg parts => uptoBulkAll parts + 1
  | .iface _ d => uptoBulk d + 1
  | .map entries => uptoBulkEntries entries + 1
  | .held _ => 1
def uptoBulkAll {H : Type} : List (DataW H) → Nat
  | [] => 0
  | d :: r => uptoBulk d + uptoBulkAll r
def uptoBulkEntries {H : Type} : List (Lit × DataW H) → Nat
  | [] => 0
  | x :: r => uptoBulkEntry x + uptoBulkEntries r
def uptoBulkEntry {H : Type} : Lit × DataW H → Nat
  | (.string bytes, d) => bytes.length + uptoBulk d + 1
  | (_, d) => uptoBulk d + 1
 end
def uptoSmall : (H : Type) → List (DataW H) → Bool := fun _ ds => decide (uptoBulkAll ds ≤ 1048576)
def OpenSpec.upto (s : _root_.Go.ChangeSpec) : _root_.Go.OpenSpec := { _root_.Go.OpenSpec.ofChange s with cond := some uptoSmall }

/-- 'gessolaw.Names', WHERE WHAT IT READS IS OF BULK AT MOST 1048576: true; the input reads as it did. -/
def namesUptoRow : OpenClaim := { program := "ytjpppdacamhhfaa", sum := "eb8da421b04878d30067bdb06c6ad2a2bfc55cfcf3192419753faceab60b2bcf", func := "gesso/gessolaw.Names", spec := "names", apart := false, narrowed := true }
def NamesUptoSaid : Prop := namesUptoRow.holds Try.pinned (OpenSpec.upto namesSpec)

/-- 'gessokeep.WordBack', WHERE WHAT IT READS IS OF BULK AT MOST 1048576: true; the input reads as it did. -/
def wordBackUptoRow : OpenClaim := { program := "ytjpppdacamhhfaa", sum := "eb8da421b04878d30067bdb06c6ad2a2bfc55cfcf3192419753faceab60b2bcf", func := "gesso/gessokeep.WordBack", spec := "wordBack", unfollowed := true, recurses := true, apart := false, narrowed := true }
def WordBackUptoSaid : Prop := wordBackUptoRow.holds Try.pinned (OpenSpec.upto wordBackSpec)

/-- 'gessolaw.WordTells', WHERE WHAT IT READS IS OF BULK AT MOST 1048576: true; the input reads as it did. -/
def wordTellsUptoRow : OpenClaim := { program := "ytjpppdacamhhfaa", sum := "eb8da421b04878d30067bdb06c6ad2a2bfc55cfcf3192419753faceab60b2bcf", func := "gesso/gessolaw.WordTells", spec := "wordTells", unfollowed := true, recurses := true, apart := false, narrowed := true }
def WordTellsUptoSaid : Prop := wordTellsUptoRow.holds Try.pinned (OpenSpec.upto wordTellsSpec)

/-- 'gessolaw.HeapChecks', WHERE WHAT IT READS IS OF BULK AT MOST 1048576: true; the input reads as it did. -/
def heapChecksUptoRow : OpenClaim := { program := "ytjpppdacamhhfaa", sum := "eb8da421b04878d30067bdb06c6ad2a2bfc55cfcf3192419753faceab60b2bcf", func := "gesso/gessolaw.HeapChecks", spec := "heapChecks", apart := false, narrowed := true }
def HeapChecksUptoSaid : Prop := heapChecksUptoRow.holds Try.pinned (OpenSpec.upto heapChecksSpec)

/-- 'gessolaw.HeapMakes', WHERE WHAT IT READS IS OF BULK AT MOST 1048576: true; the input reads as it did. -/
def heapMakesUptoRow : OpenClaim := { program := "ytjpppdacamhhfaa", sum := "eb8da421b04878d30067bdb06c6ad2a2bfc55cfcf3192419753faceab60b2bcf", func := "gesso/gessolaw.HeapMakes", spec := "heapMakes", apart := false, narrowed := true }
def HeapMakesUptoSaid : Prop := heapMakesUptoRow.holds Try.pinned (OpenSpec.upto heapMakesSpec)

/-- 'gessolaw.HeapPuts', WHERE WHAT IT READS IS OF BULK AT MOST 1048576: true; the input reads as it did. -/
def heapPutsUptoRow : OpenClaim := { program := "ytjpppdacamhhfaa", sum := "eb8da421b04878d30067bdb06c6ad2a2bfc55cfcf3192419753faceab60b2bcf", func := "gesso/gessolaw.HeapPuts", spec := "heapPuts", apart := false, narrowed := true }
def HeapPutsUptoSaid : Prop := heapPutsUptoRow.holds Try.pinned (OpenSpec.upto heapPutsSpec)

/-- 'gessolaw.MoveMoves', WHERE WHAT IT READS IS OF BULK AT MOST 1048576: true; the input reads as it did. -/
def moveMovesUptoRow : OpenClaim := { program := "ytjpppdacamhhfaa", sum := "eb8da421b04878d30067bdb06c6ad2a2bfc55cfcf3192419753faceab60b2bcf", func := "gesso/gessolaw.MoveMoves", spec := "moveMoves", apart := false, narrowed := true }
def MoveMovesUptoSaid : Prop := moveMovesUptoRow.holds Try.pinned (OpenSpec.upto moveMovesSpec)

/-- 'gessolaw.MoveHolds', WHERE WHAT IT READS IS OF BULK AT MOST 1048576: true; the input reads as it did. -/
def moveHoldsUptoRow : OpenClaim := { program := "ytjpppdacamhhfaa", sum := "eb8da421b04878d30067bdb06c6ad2a2bfc55cfcf3192419753faceab60b2bcf", func := "gesso/gessolaw.MoveHolds", spec := "moveHolds", apart := false, narrowed := true }
def MoveHoldsUptoSaid : Prop := moveHoldsUptoRow.holds Try.pinned (OpenSpec.upto moveHoldsSpec)

/-- 'gessokeep.HeapKeeps', WHERE WHAT IT READS IS OF BULK AT MOST 1048576: true; the input reads as it did. -/
def heapKeepsUptoRow : OpenClaim := { program := "ytjpppdacamhhfaa", sum := "eb8da421b04878d30067bdb06c6ad2a2bfc55cfcf3192419753faceab60b2bcf", func := "gesso/gessokeep.HeapKeeps", spec := "heapKeeps", apart := false, narrowed := true }
def HeapKeepsUptoSaid : Prop := heapKeepsUptoRow.holds Try.pinned (OpenSpec.upto heapKeepsSpec)

/-- 'gessolaw.CountTells', WHERE WHAT IT READS IS OF BULK AT MOST 1048576: true; the input reads as it did. -/
def countTellsUptoRow : OpenClaim := { program := "ytjpppdacamhhfaa", sum := "eb8da421b04878d30067bdb06c6ad2a2bfc55cfcf3192419753faceab60b2bcf", func := "gesso/gessolaw.CountTells", spec := "countTells", unfollowed := true, recurses := true, apart := false, narrowed := true }
def CountTellsUptoSaid : Prop := countTellsUptoRow.holds Try.pinned (OpenSpec.upto countTellsSpec)

/-- 'gessolaw.SweepCollects', WHERE WHAT IT READS IS OF BULK AT MOST 1048576: true; the input reads as it did. -/
def sweepCollectsUptoRow : OpenClaim := { program := "ytjpppdacamhhfaa", sum := "eb8da421b04878d30067bdb06c6ad2a2bfc55cfcf3192419753faceab60b2bcf", func := "gesso/gessolaw.SweepCollects", spec := "sweepCollects", unfollowed := true, recurses := true, apart := false, narrowed := true }
def SweepCollectsUptoSaid : Prop := sweepCollectsUptoRow.holds Try.pinned (OpenSpec.upto sweepCollectsSpec)

/-- 'gessolaw.SweepHolds', WHERE WHAT IT READS IS OF BULK AT MOST 1048576: true; the input reads as it did. -/
def sweepHoldsUptoRow : OpenClaim := { program := "ytjpppdacamhhfaa", sum := "eb8da421b04878d30067bdb06c6ad2a2bfc55cfcf3192419753faceab60b2bcf", func := "gesso/gessolaw.SweepHolds", spec := "sweepHolds", unfollowed := true, recurses := true, apart := false, narrowed := true }
def SweepHoldsUptoSaid : Prop := sweepHoldsUptoRow.holds Try.pinned (OpenSpec.upto sweepHoldsSpec)

/-- 'gessolaw.BecomeDoes', WHERE WHAT IT READS IS OF BULK AT MOST 1048576: true; the input reads as it did. -/
def becomeDoesUptoRow : OpenClaim := { program := "ytjpppdacamhhfaa", sum := "eb8da421b04878d30067bdb06c6ad2a2bfc55cfcf3192419753faceab60b2bcf", func := "gesso/gessolaw.BecomeDoes", spec := "becomeDoes", unfollowed := true, recurses := true, apart := false, narrowed := true }
def BecomeDoesUptoSaid : Prop := becomeDoesUptoRow.holds Try.pinned (OpenSpec.upto becomeDoesSpec)

/-- 'gessokeep.BecomeTwice', WHERE WHAT IT READS IS OF BULK AT MOST 1048576: true; the input reads as it did. -/
def becomeTwiceUptoRow : OpenClaim := { program := "ytjpppdacamhhfaa", sum := "eb8da421b04878d30067bdb06c6ad2a2bfc55cfcf3192419753faceab60b2bcf", func := "gesso/gessokeep.BecomeTwice", spec := "becomeTwice", unfollowed := true, recurses := true, apart := false, narrowed := true }
def BecomeTwiceUptoSaid : Prop := becomeTwiceUptoRow.holds Try.pinned (OpenSpec.upto becomeTwiceSpec)

/-- 'gessolaw.ImageWrites', WHERE WHAT IT READS IS OF BULK AT MOST 1048576: true; the input reads as it did. -/
def imageWritesUptoRow : OpenClaim := { program := "ytjpppdacamhhfaa", sum := "eb8da421b04878d30067bdb06c6ad2a2bfc55cfcf3192419753faceab60b2bcf", func := "gesso/gessolaw.ImageWrites", spec := "imageWrites", unfollowed := true, recurses := true, apart := false, narrowed := true }
def ImageWritesUptoSaid : Prop := imageWritesUptoRow.holds Try.pinned (OpenSpec.upto imageWritesSpec)

/-- 'gessolaw.ImageReads', WHERE WHAT IT READS IS OF BULK AT MOST 1048576: true; the input reads as it did. -/
def imageReadsUptoRow : OpenClaim := { program := "ytjpppdacamhhfaa", sum := "eb8da421b04878d30067bdb06c6ad2a2bfc55cfcf3192419753faceab60b2bcf", func := "gesso/gessolaw.ImageReads", spec := "imageReads", unfollowed := true, recurses := true, apart := false, narrowed := true }
def ImageReadsUptoSaid : Prop := imageReadsUptoRow.holds Try.pinned (OpenSpec.upto imageReadsSpec)

/-- 'gessokeep.ImageBack', WHERE WHAT IT READS IS OF BULK AT MOST 1048576: true; the input reads as it did. -/
def imageBackUptoRow : OpenClaim := { program := "ytjpppdacamhhfaa", sum := "eb8da421b04878d30067bdb06c6ad2a2bfc55cfcf3192419753faceab60b2bcf", func := "gesso/gessokeep.ImageBack", spec := "imageBack", unfollowed := true, recurses := true, apart := false, narrowed := true }
def ImageBackUptoSaid : Prop := imageBackUptoRow.holds Try.pinned (OpenSpec.upto imageBackSpec)

/-- 'gessolaw.ReachAlike', WHERE WHAT IT READS IS OF BULK AT MOST 1048576: true; the input reads as it did. -/
def reachAlikeUptoRow : OpenClaim := { program := "ytjpppdacamhhfaa", sum := "eb8da421b04878d30067bdb06c6ad2a2bfc55cfcf3192419753faceab60b2bcf", func := "gesso/gessolaw.ReachAlike", spec := "reachAlike", unfollowed := true, recurses := true, apart := false, narrowed := true }
def ReachAlikeUptoSaid : Prop := reachAlikeUptoRow.holds Try.pinned (OpenSpec.upto reachAlikeSpec)

/-- 'gessokeep.MoveTwice', WHERE WHAT IT READS IS OF BULK AT MOST 1048576: true; the input reads as it did. -/
def moveTwiceUptoRow : OpenClaim := { program := "ytjpppdacamhhfaa", sum := "eb8da421b04878d30067bdb06c6ad2a2bfc55cfcf3192419753faceab60b2bcf", func := "gesso/gessokeep.MoveTwice", spec := "moveTwice", unfollowed := true, recurses := true, apart := false, narrowed := true }
def MoveTwiceUptoSaid : Prop := moveTwiceUptoRow.holds Try.pinned (OpenSpec.upto moveTwiceSpec)

/-- 'gessolaw.NamesKeep', WHERE WHAT IT READS IS OF BULK AT MOST 1048576: true; the input reads as it did. -/
def namesKeepUptoRow : OpenClaim := { program := "ytjpppdacamhhfaa", sum := "eb8da421b04878d30067bdb06c6ad2a2bfc55cfcf3192419753faceab60b2bcf", func := "gesso/gessolaw.NamesKeep", spec := "namesKeep", unfollowed := true, recurses := true, apart := false, narrowed := true }
def NamesKeepUptoSaid : Prop := namesKeepUptoRow.holds Try.pinned (OpenSpec.upto namesKeepSpec)

/-- 'gessokeep.NamesOnce', WHERE WHAT IT READS IS OF BULK AT MOST 1048576: true; the input reads as it did. -/
def namesOnceUptoRow : OpenClaim := { program := "ytjpppdacamhhfaa", sum := "eb8da421b04878d30067bdb06c6ad2a2bfc55cfcf3192419753faceab60b2bcf", func := "gesso/gessokeep.NamesOnce", spec := "namesOnce", unfollowed := true, recurses := true, apart := false, narrowed := true }
def NamesOnceUptoSaid : Prop := namesOnceUptoRow.holds Try.pinned (OpenSpec.upto namesOnceSpec)

/-- 'gessokeep.SweepTwice', WHERE WHAT IT READS IS OF BULK AT MOST 1048576: true; the input reads as it did. -/
def sweepTwiceUptoRow : OpenClaim := { program := "ytjpppdacamhhfaa", sum := "eb8da421b04878d30067bdb06c6ad2a2bfc55cfcf3192419753faceab60b2bcf", func := "gesso/gessokeep.SweepTwice", spec := "sweepTwice", unfollowed := true, recurses := true, apart := false, narrowed := true }
def SweepTwiceUptoSaid : Prop := sweepTwiceUptoRow.holds Try.pinned (OpenSpec.upto sweepTwiceSpec)

/-- 'gessolaw.TriHolds', WHERE WHAT IT READS IS OF BULK AT MOST 1048576: true; the input reads as it did. -/
def triHoldsUptoRow : OpenClaim := { program := "ytjpppdacamhhfaa", sum := "eb8da421b04878d30067bdb06c6ad2a2bfc55cfcf3192419753faceab60b2bcf", func := "gesso/gessolaw.TriHolds", spec := "triHolds", apart := false, narrowed := true }
def TriHoldsUptoSaid : Prop := triHoldsUptoRow.holds Try.pinned (OpenSpec.upto triHoldsSpec)

/-- 'gessolaw.TriPlays', WHERE WHAT IT READS IS OF BULK AT MOST 1048576: true; the input reads as it did. -/
def triPlaysUptoRow : OpenClaim := { program := "ytjpppdacamhhfaa", sum := "eb8da421b04878d30067bdb06c6ad2a2bfc55cfcf3192419753faceab60b2bcf", func := "gesso/gessolaw.TriPlays", spec := "triPlays", apart := false, narrowed := true }
def TriPlaysUptoSaid : Prop := triPlaysUptoRow.holds Try.pinned (OpenSpec.upto triPlaysSpec)

/-- 'gessolaw.ReachTells', WHERE WHAT IT READS IS OF BULK AT MOST 1048576: true; the input reads as it did. -/
def reachTellsUptoRow : OpenClaim := { program := "ytjpppdacamhhfaa", sum := "eb8da421b04878d30067bdb06c6ad2a2bfc55cfcf3192419753faceab60b2bcf", func := "gesso/gessolaw.ReachTells", spec := "reachTells", unfollowed := true, recurses := true, apart := false, narrowed := true }
def ReachTellsUptoSaid : Prop := reachTellsUptoRow.holds Try.pinned (OpenSpec.upto reachTellsSpec)

/-- 'gessokeep.TriAlone', WHERE WHAT IT READS IS OF BULK AT MOST 1048576: true; the input reads as it did. -/
def triAloneUptoRow : OpenClaim := { program := "ytjpppdacamhhfaa", sum := "eb8da421b04878d30067bdb06c6ad2a2bfc55cfcf3192419753faceab60b2bcf", func := "gesso/gessokeep.TriAlone", spec := "triAlone", unfollowed := true, recurses := true, apart := false, narrowed := true }
def TriAloneUptoSaid : Prop := triAloneUptoRow.holds Try.pinned (OpenSpec.upto triAloneSpec)

end Rows
end Go.Proofs.Ytjpppdacamhhfaa
