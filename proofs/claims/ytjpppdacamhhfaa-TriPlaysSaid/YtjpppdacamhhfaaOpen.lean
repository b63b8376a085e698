/- What came in, opened: numbers, lists of numbers, heaps; read behind the call as before. Conditions: none. -/
import Derived.Test.YtjpppdacamhhfaaFrame
import Derived.Test.YtjpppdacamhhfaaMem2
import Derived.ChangeSlices
namespace Go.Proofs.Ytjpppdacamhhfaa
open Go.ChangeShapes Go.WideShapes Go.ChangeAt Go.RowKit
set_option linter.unusedVariables false

set_option maxRecDepth 100000
theorem cells3 : Try.prog.cellsOf 3 = 1 := by kernel_rfl
theorem cells22 : Try.prog.cellsOf 22 = 1 := by kernel_rfl
theorem cells33 : Try.prog.cellsOf 33 = 1 := by kernel_rfl
theorem read22 : Try.prog.readableRec 22 = true := by kernel_rfl
theorem read33 : Try.prog.readableRec 33 = true := by kernel_rfl
theorem size22 : decide (22 < Try.prog.types.size) = true := by kernel_rfl
theorem size33 : decide (33 < Try.prog.types.size) = true := by kernel_rfl

section
variable {H : Type} {enc : TypeId × Value → H} {w : World}

theorem spot_none {w : World} {a : Addr} {v : Value} (h : w.cell? a = some v) : a.spot = none := by
  unfold World.cell? at h
  split at h
  · split at h
    · cases h
    · rename_i hs; simpa using hs
  · cases h

theorem open_list0 {base : Nat} {spare : Nat → Bool} {held : Bool} {fuel : Nat} {cs : List Value} {x : DataW H × List MemPlace} (h : DataW.trod enc Try.prog w base spare held fuel 22 cs = some x) :
    ∃ A xs c, cs = [.slice A xs.length c] ∧ xs.length ≤ c ∧ I64 xs ∧ Ints w A xs ∧ xs.length ≤ 9223372036854775807 := by
  rcases open_ints Try.underlying22 Try.underlying3 cells3 h with ⟨rfl, rfl⟩ | ⟨a, len, cap, zs, rfl, hb, hl, hm, hz, rfl, hcell, hwf⟩
  · exact ⟨none, [], 0, rfl, Nat.le_refl _, fun j => by simp [nth], Ints.nil _ _, by simp⟩
  · have hlz : len ≤ zs.length := by rw [hz]; split <;> omega
    have hlen : (zs.take len).length = len := by rw [List.length_take]; omega
    refine ⟨some a, zs.take len, cap, by rw [hlen], by rw [hlen]; exact hl, ?_, ?_, by rw [hlen]; unfold maxLen at hm; omega⟩
    · intro j
      rcases Nat.lt_or_ge j (zs.take len).length with hj | hj
      · rw [nth_eq hj]
        exact bounds_i64 (hwf _ (List.mem_of_mem_take (List.getElem_mem hj)))
      · rw [nth_out hj]; omega
    · intro hpos
      have h0 := hcell 0 (by omega)
      have ha : a = ⟨a.block, a.off, none⟩ := by
        have := spot_none h0
        simp [Addr.add] at this
        cases a; simp_all
      refine ⟨a.block, a.off, by rw [← ha], ?_, fun j hj => ?_⟩
      · have := World.block_lt_of_cell? w _ h0
        simpa [Addr.add] using this
      · have hj' : j < zs.length := by omega
        have h1 := hcell j hj'
        have e : a.add j = ⟨a.block, a.off + j, none⟩ := by
          unfold Addr.add
          split
          · rename_i h; subst h; exact ha
          · rfl
        rw [e] at h1
        rw [h1, nth_eq hj, List.getElem_take]
        simp [List.getD, hj']

theorem open_list {base : Nat} {spare : Nat → Bool} {held : Bool} {v : Value} {d : DataW H} {ps : List MemPlace} {r : Reach} {b0 : Nat} (hv : Value.okWide Try.prog w r b0 22 v) (h : DataW.Trod enc Try.prog w base spare held 22 v d ps) :
    ∃ A xs c, v = .slice A xs.length c ∧ xs.length ≤ c ∧ I64 xs ∧ Ints w A xs ∧ xs.length ≤ 9223372036854775807 := by
  obtain ⟨fuel, hf⟩ := h
  obtain ⟨A, xs, c, hcs, r1, r2, r3, r4⟩ := open_list0 hf
  have hsl : ∃ A n c, v = .slice A n c := by
    cases v
    all_goals first | exact ⟨_, _, _, rfl⟩ | (exfalso; simp [Value.cells] at hcs; done) | (exfalso; simp [Value.okWide, Cell.okWide, Cell.ok, Try.underlying22] at hv; done)
  obtain ⟨A', n, c', rfl⟩ := hsl
  refine ⟨A, xs, c, ?_, r1, r2, r3, r4⟩
  simpa [Value.cells] using hcs

theorem open_heap {base : Nat} {spare : Nat → Bool} {held : Bool} {v : Value} {d : DataW H} {ps : List MemPlace} {r : Reach} {b0 : Nat} (hv : Value.okWide Try.prog w r b0 33 v) (h : DataW.Trod enc Try.prog w base spare held 33 v d ps) :
    ∃ A xs c, v = .agg #[.slice A xs.length c] ∧ xs.length ≤ c ∧ I64 xs ∧ Ints w A xs ∧ xs.length ≤ 9223372036854775807 := by
  obtain ⟨cs, rfl, hsz⟩ := okWide_struct Try.underlying33 hv
  have hsz' : cs.size = 1 := hsz.trans cells33
  obtain ⟨l⟩ := cs
  match l, hsz' with
  | [c0], _ =>
    obtain ⟨fuel, hf⟩ := h
    obtain ⟨y0, n, _, _, h0⟩ := trod_struct1 Try.underlying33 hf
    have h1 : DataW.trod enc Try.prog w base spare held n 22 [c0] = some y0 := by simpa [Value.cells, cells22] using h0
    obtain ⟨A, xs, c, hcs, r1, r2, r3, r4⟩ := open_list0 h1
    simp at hcs
    subst hcs
    exact ⟨A, xs, c, rfl, r1, r2, r3, r4⟩
end

section
variable {H : Type} {enc : TypeId × Value → H} {W W' : World} {v : Value} {d : DataW H} {ps : List MemPlace}
/-- An argument reads behind the call as before. -/
theorem stays_list (h : DataW.Trod enc Try.prog W 0 (fun _ => true) true 22 v d ps) (hb : Below W.heap.size W W') (hlt : ∀ x ∈ ps, x.block < W.heap.size) :
    DataW.Trod enc Try.prog W' 0 (fun b => decide (b < W.heap.size)) true 22 v d ps := Below.trod fLaid read22 (of_decide_eq_true size22) h hb hlt
theorem stays_heap (h : DataW.Trod enc Try.prog W 0 (fun _ => true) true 33 v d ps) (hb : Below W.heap.size W W') (hlt : ∀ x ∈ ps, x.block < W.heap.size) :
    DataW.Trod enc Try.prog W' 0 (fun b => decide (b < W.heap.size)) true 33 v d ps := Below.trod fLaid read33 (of_decide_eq_true size33) h hb hlt
end

end Go.Proofs.Ytjpppdacamhhfaa
