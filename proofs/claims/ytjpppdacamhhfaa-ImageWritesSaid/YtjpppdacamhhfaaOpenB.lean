/- Bytes that came in, opened; read behind the call as before. Conditions: none. -/
import Derived.Test.YtjpppdacamhhfaaOpen
import Derived.Test.YtjpppdacamhhfaaMemU
import Derived.OpenShut
namespace Go.Proofs.Ytjpppdacamhhfaa
open Go.ChangeShapes Go.WideShapes Go.ChangeAt Go.RowKit
set_option linter.unusedVariables false

set_option maxRecDepth 100000
theorem cells5 : Try.prog.cellsOf 5 = 1 := by kernel_rfl
theorem read70 : Try.prog.readableRec 70 = true := by kernel_rfl
theorem size70 : decide (70 < Try.prog.types.size) = true := by kernel_rfl
theorem nth_outU {xs : List Int} {j : Nat} (h : xs.length ≤ j) : nth xs j = 0 := by unfold nth; rw [List.getD_eq_getElem?_getD, List.getElem?_eq_none h]; rfl

section
variable {H : Type} {enc : TypeId × Value → H} {w : World}
theorem open_bytes {base : Nat} {spare : Nat → Bool} {held : Bool} {v : Value} {d : DataW H} {ps : List MemPlace} {r : Reach} {b0 : Nat} (hv : Value.okWide Try.prog w r b0 70 v) (h : DataW.Trod enc Try.prog w base spare held 70 v d ps) :
    ∃ A xs c, v = .slice A xs.length c ∧ xs.length ≤ c ∧ (∀ j, 0 ≤ nth xs j ∧ nth xs j ≤ 255) ∧ IntsU w A xs ∧ xs.length ≤ 9223372036854775807 := by
  obtain ⟨fuel, hf⟩ := h
  have hsl : ∃ A n c, v = .slice A n c := by
    cases v
    all_goals first | exact ⟨_, _, _, rfl⟩ | (exfalso; simp [Value.okWide, Cell.okWide, Cell.ok, Try.underlying70] at hv; done)
  obtain ⟨A', n', c', rfl⟩ := hsl
  rcases open_ints Try.underlying70 Try.underlying5 cells5 hf with ⟨hcs, -⟩ | ⟨a, len, cap, zs, hcs, hb, hl, hm, hz, -, hcell, hwf⟩
  · simp [Value.cells] at hcs
    obtain ⟨rfl, rfl, rfl⟩ := hcs
    exact ⟨none, [], 0, rfl, Nat.le_refl _, fun j => by rw [nth_outU (by simp)]; omega, fun h => absurd h (by simp), by simp⟩
  · simp [Value.cells] at hcs
    obtain ⟨rfl, rfl, rfl⟩ := hcs
    have hlz : n' ≤ zs.length := by rw [hz]; split <;> omega
    have hlen : (zs.take n').length = n' := by rw [List.length_take]; omega
    refine ⟨some a, zs.take n', c', by rw [hlen], by rw [hlen]; exact hl, ?_, ?_, by rw [hlen]; unfold maxLen at hm; omega⟩
    · intro j
      rcases Nat.lt_or_ge j (zs.take n').length with hj | hj
      · rw [nth_eq hj]
        exact bounds_u8 (hwf _ (List.mem_of_mem_take (List.getElem_mem hj)))
      · rw [nth_outU hj]; omega
    · intro hpos
      have h0 := hcell 0 (by omega)
      have ha : a = ⟨a.block, a.off, none⟩ := by
        have := spot_none h0
        simp [Addr.add] at this
        cases a; simp_all
      refine ⟨a.block, a.off, by rw [← ha], ?_, fun j hj => ?_⟩
      · have := World.block_lt_of_cell? w _ h0
        simpa [Addr.add] using this
      · have hj' : j < zs.length := by omega
        have h1 := hcell j hj'
        have h2 : a.add j = ⟨a.block, a.off + j, none⟩ := by
          rw [ha]
          unfold Addr.add
          cases j with
          | zero => rfl
          | succ j => rfl
        rw [h2] at h1
        rw [h1, nth_eq hj, List.getElem_take]
        simp [List.getD, hj']
end
section
variable {H : Type} {enc : TypeId × Value → H} {W W' : World} {v : Value} {d : DataW H} {ps : List MemPlace}
theorem stays_bytes (h : DataW.Trod enc Try.prog W 0 (fun _ => true) true 70 v d ps) (hb : Below W.heap.size W W') (hlt : ∀ x ∈ ps, x.block < W.heap.size) :
    DataW.Trod enc Try.prog W' 0 (fun b => decide (b < W.heap.size)) true 70 v d ps := Below.trod fLaid read70 (of_decide_eq_true size70) h hb hlt
end
end Go.Proofs.Ytjpppdacamhhfaa
