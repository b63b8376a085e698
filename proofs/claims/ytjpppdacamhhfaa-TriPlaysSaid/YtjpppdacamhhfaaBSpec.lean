/- Plain functions: what is wrong with two lists of who is to be who; who becomes who. No program in sight. Conditions: none. -/
import Derived.Test.YtjpppdacamhhfaaHSpec4
namespace Go.Proofs.Ytjpppdacamhhfaa
set_option linter.unusedVariables false

/-- Are both things, at i? -/
def pairB (ws fr to : List Int) (i : Nat) : Bool := isTh ws (nth fr i) && isTh ws (nth to i)
def badPair (ws fr to : List Int) : Nat → Nat → Option Nat
  | 0, _ => none
  | n + 1, i => if pairB ws fr to i = true then badPair ws fr to n (i + 1) else some i
def bpFrom (ws fr to : List Int) (i : Nat) : Option Nat := badPair ws fr to (fr.length - i) i
theorem bpFrom_ok {ws fr to : List Int} {i : Nat} (h : i < fr.length) (hf : pairB ws fr to i = true) : bpFrom ws fr to i = bpFrom ws fr to (i + 1) := by
  unfold bpFrom
  rw [show fr.length - i = (fr.length - (i + 1)) + 1 from by omega, badPair, if_pos hf]
theorem bpFrom_no {ws fr to : List Int} {i : Nat} (h : i < fr.length) (hf : pairB ws fr to i = false) : bpFrom ws fr to i = some i := by
  unfold bpFrom
  rw [show fr.length - i = (fr.length - (i + 1)) + 1 from by omega, badPair, if_neg (by rw [hf]; decide)]
theorem bpFrom_end {ws fr to : List Int} : bpFrom ws fr to fr.length = none := by
  unfold bpFrom; rw [Nat.sub_self]; rfl

/-- Who was named ahead of i. -/
def Named (fr to : List Int) (both : Bool) (i : Nat) (o : Int) : Prop := ∃ k, k < i ∧ (nth fr k = o ∨ (both = true ∧ nth to k = o))
/-- Is somebody named twice, at i? -/
def Twice (fr to : List Int) (both : Bool) (i : Nat) : Prop := Named fr to both i (nth fr i) ∨ (both = true ∧ (nth fr i = nth to i ∨ Named fr to both i (nth to i)))
instance (fr to : List Int) (both : Bool) (i : Nat) (o : Int) : Decidable (Named fr to both i o) :=
  decidable_of_iff ((List.range i).any (fun k => nth fr k == o || (both && nth to k == o)) = true) (by
    unfold Named
    rw [List.any_eq_true]
    constructor
    · rintro ⟨k, hk, h⟩
      exact ⟨k, List.mem_range.1 hk, by simpa using h⟩
    · rintro ⟨k, hk, h⟩
      exact ⟨k, List.mem_range.2 hk, by simpa using h⟩)
instance (fr to : List Int) (both : Bool) (i : Nat) : Decidable (Twice fr to both i) := by unfold Twice; infer_instance
def badTwice (fr to : List Int) (both : Bool) : Nat → Nat → Option Nat
  | 0, _ => none
  | n + 1, i => if Twice fr to both i then some i else badTwice fr to both n (i + 1)
def btFrom (fr to : List Int) (both : Bool) (i : Nat) : Option Nat := badTwice fr to both (fr.length - i) i
theorem btFrom_ok {fr to : List Int} {both : Bool} {i : Nat} (h : i < fr.length) (hf : ¬ Twice fr to both i) : btFrom fr to both i = btFrom fr to both (i + 1) := by
  unfold btFrom
  rw [show fr.length - i = (fr.length - (i + 1)) + 1 from by omega, badTwice, if_neg hf]
theorem btFrom_no {fr to : List Int} {both : Bool} {i : Nat} (h : i < fr.length) (hf : Twice fr to both i) : btFrom fr to both i = some i := by
  unfold btFrom
  rw [show fr.length - i = (fr.length - (i + 1)) + 1 from by omega, badTwice, if_pos hf]
theorem btFrom_end {fr to : List Int} {both : Bool} : btFrom fr to both fr.length = none := by
  unfold btFrom; rw [Nat.sub_self]; rfl
theorem named_succ {fr to : List Int} {both : Bool} {i : Nat} {o : Int} : Named fr to both (i + 1) o ↔ Named fr to both i o ∨ nth fr i = o ∨ (both = true ∧ nth to i = o) := by
  constructor
  · rintro ⟨k, hk, h⟩
    rcases Nat.lt_or_ge k i with hl | hl
    · exact .inl ⟨k, hl, h⟩
    · obtain rfl : k = i := by omega
      exact .inr h
  · rintro (⟨k, hk, h⟩ | h)
    · exact ⟨k, by omega, h⟩
    · exact ⟨i, by omega, h⟩
theorem named_zero {fr to : List Int} {both : Bool} {o : Int} : ¬ Named fr to both 0 o := by rintro ⟨k, hk, _⟩; omega

/-- What is wrong with two lists. -/
def wrongF (ws fr to : List Int) (both : Bool) : Int × Nat :=
  if fr.length ≠ to.length then (1, 0)
  else match bpFrom ws fr to 0 with
    | some i => (3, i)
    | none => match btFrom fr to both 0 with
      | some i => (5, i)
      | none => (0, 0)
theorem wrongF_len {ws fr to : List Int} {both : Bool} (h : fr.length ≠ to.length) : wrongF ws fr to both = (1, 0) := by unfold wrongF; rw [if_pos h]
theorem wrongF_pair {ws fr to : List Int} {both : Bool} {i : Nat} (h : fr.length = to.length) (h1 : bpFrom ws fr to 0 = some i) : wrongF ws fr to both = (3, i) := by
  unfold wrongF; rw [if_neg (fun e => e h), h1]
theorem wrongF_twice {ws fr to : List Int} {both : Bool} {i : Nat} (h : fr.length = to.length) (h1 : bpFrom ws fr to 0 = none) (h2 : btFrom fr to both 0 = some i) : wrongF ws fr to both = (5, i) := by
  unfold wrongF; rw [if_neg (fun e => e h), h1]; simp only [h2]
theorem wrongF_ok {ws fr to : List Int} {both : Bool} (h : fr.length = to.length) (h1 : bpFrom ws fr to 0 = none) (h2 : btFrom fr to both 0 = none) : wrongF ws fr to both = (0, 0) := by
  unfold wrongF; rw [if_neg (fun e => e h), h1]; simp only [h2]

/-- Who somebody becomes: the first pair, from i on, that names him. -/
def otherF (fr to : List Int) (both : Bool) (o : Int) : Nat → Nat → Int
  | 0, _ => o
  | n + 1, i => if nth fr i = o then nth to i else if both = true ∧ nth to i = o then nth fr i else otherF fr to both o n (i + 1)
def other (fr to : List Int) (both : Bool) (o : Int) : Int := otherF fr to both o fr.length 0
def otFrom (fr to : List Int) (both : Bool) (o : Int) (i : Nat) : Int := otherF fr to both o (fr.length - i) i
theorem other_eq (fr to : List Int) (both : Bool) (o : Int) : other fr to both o = otFrom fr to both o 0 := rfl
theorem otFrom_step {fr to : List Int} {both : Bool} {o : Int} {i : Nat} (h : i < fr.length) : otFrom fr to both o i = if nth fr i = o then nth to i else if both = true ∧ nth to i = o then nth fr i else otFrom fr to both o (i + 1) := by
  unfold otFrom
  rw [show fr.length - i = (fr.length - (i + 1)) + 1 from by omega, otherF]
theorem otFrom_end {fr to : List Int} {both : Bool} {o : Int} : otFrom fr to both o fr.length = o := by
  unfold otFrom; rw [Nat.sub_self]; rfl

end Go.Proofs.Ytjpppdacamhhfaa
