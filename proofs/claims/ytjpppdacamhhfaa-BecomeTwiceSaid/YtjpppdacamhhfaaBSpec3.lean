/- Plain laws: who becomes who, done twice both ways, is nothing; one way, nobody is who was. No program in sight. Conditions: none. -/
import Derived.Test.YtjpppdacamhhfaaBSpec2
namespace Go.Proofs.Ytjpppdacamhhfaa
set_option linter.unusedVariables false

theorem named_first {fr ot : List Int} {both : Bool} {o : Int} : ∀ {n : Nat}, Named fr ot both n o → ∃ k, k < n ∧ ¬ Named fr ot both k o ∧ (nth fr k = o ∨ (both = true ∧ nth ot k = o))
  | 0, h => absurd h named_zero
  | n + 1, h => by
    by_cases h' : Named fr ot both n o
    · obtain ⟨k, hk, h1, h2⟩ := named_first h'
      exact ⟨k, by omega, h1, h2⟩
    · rcases named_succ.1 h with h1 | h1
      · exact absurd h1 h'
      · exact ⟨n, by omega, h', h1⟩
/-- Both ways, done twice, is nothing. -/
theorem other_twice {fr ot : List Int} (ht : btFrom fr ot true 0 = none) (o : Int) : other fr ot true (other fr ot true o) = o := by
  by_cases hn : Named fr ot true fr.length o
  · obtain ⟨k, hk, h1, h2⟩ := named_first hn
    have hT := bt_none ht k hk
    have t1 : ¬ Named fr ot true k (nth fr k) := fun e => hT (.inl e)
    have t2 : nth fr k ≠ nth ot k := fun e => hT (.inr ⟨rfl, .inl e⟩)
    have t3 : ¬ Named fr ot true k (nth ot k) := fun e => hT (.inr ⟨rfl, .inr e⟩)
    rcases h2 with rfl | ⟨_, rfl⟩
    · rw [other_from hk t1, other_to hk t3 t2]
    · rw [other_to hk t3 t2, other_from hk t1]
  · rw [other_none hn, other_none hn]
/-- One way, who is among the first and not among the others is nobody any more. -/
theorem other_gone {fr ot : List Int} (hl : fr.length = ot.length) {i : Nat} (hi : i < fr.length) (hno : ∀ j, j < ot.length → nth ot j ≠ nth fr i) (o : Int) : other fr ot false o ≠ nth fr i := by
  by_cases hn : Named fr ot false fr.length o
  · obtain ⟨k, hk, h1, h2⟩ := named_first hn
    rcases h2 with rfl | ⟨h, _⟩
    · rw [other_from hk h1]
      exact hno k (by omega)
    · cases h
  · rw [other_none hn]
    rintro rfl
    exact hn ⟨i, hi, .inl rfl⟩
end Go.Proofs.Ytjpppdacamhhfaa
