/- Ops that came in, opened; read behind the call as before. Conditions: none. -/
import Derived.Test.YtjpppdacamhhfaaOpen
import Derived.Test.YtjpppdacamhhfaaTrF
import Derived.Deep.Slices
import Derived.Deep.Fields
import Derived.ChangeSame
import Derived.OpenShut
namespace Go.Proofs.Ytjpppdacamhhfaa
open Go.ChangeShapes Go.WideShapes Go.ChangeAt Go.RowKit Go.Deep
set_option linter.unusedVariables false

set_option maxRecDepth 100000
theorem read91 : Try.prog.readableRec 91 = true := by kernel_rfl
theorem size91 : decide (91 < Try.prog.types.size) = true := by kernel_rfl
theorem cells100 : Try.prog.cellsOf 100 = 6 := by kernel_rfl

section
variable {H : Type} {enc : TypeId × Value → H} {w : World}
/-- Every field of every element, at its cell. -/
theorem open_slice_fields {P : Program} {base : Nat} {spare : Nat → Bool} {held : Bool} {t e : TypeId} {fs : Array Field} {fuel : Nat} {cs : List Value} {x : DataW H × List MemPlace} (ht : P.underlying t = some (.slice e)) (he : P.underlying e = some (.struct fs))
    (hone : oneCellFields P fs = true) (hC : P.cellsOf e = fs.size) (h : DataW.trod enc P w base spare held fuel t cs = some x) :
    (cs = [.slice none 0 0] ∧ x = (.nil, [])) ∨
    ∃ (a : Addr) (len cap m : Nat), cs = [.slice (some a) len cap] ∧ base ≤ a.block ∧ len ≤ cap ∧ cap ≤ maxLen ∧ m = (if spare a.block then cap else len) ∧
      ∀ i, i < m → ∀ (j : Nat) (f : Field), fs[j]? = some f → ∃ (v : Value) (y : DataW H × List MemPlace) (n : Nat), w.cell? (a.add (i * fs.size + j)) = some v ∧ DataW.trod enc P w base spare held n f.type [v] = some y := by
  rcases open_slice ht h with h0 | ⟨a, len, cap, m, n, D, Pl, hcs, hb, hl, hm, hmm, hx, hi⟩
  · exact .inl h0
  · refine .inr ⟨a, len, cap, m, hcs, hb, hl, hm, hmm, fun i him => ?_⟩
    obtain ⟨cs', hc, ht'⟩ := hi i him
    rw [hC] at hc
    obtain ⟨ys, n', hn', hy, hlen, hyl, hf⟩ := DataW.trod_struct he ht'
    obtain ⟨_, hcl, hat⟩ := World.cells?_some hc
    intro j f hj
    obtain ⟨ho, hk⟩ := hone_of hone j f hj
    have hjl : j < fs.size := (Array.getElem?_eq_some_iff.1 hj).1
    have hcell := hat j hjl
    have hv : cs'[j]? = some (cs'[j]'(by omega)) := List.getElem?_eq_getElem (by omega)
    have h1 := hf j f hj
    rw [ho, hk] at h1
    have hone' : (cs'.drop j).take 1 = [cs'[j]'(by omega)] := by
      rw [List.drop_eq_getElem_cons (by omega)]
      rfl
    rw [hone'] at h1
    have hys : ys[j]? = some (ys[j]'(by omega)) := List.getElem?_eq_getElem (by omega)
    refine ⟨_, _, n', ?_, h1.trans hys⟩
    rw [← Go.Deep.add_add, hcell, hv]

/-- The number at a cell. -/
def numAt (w : World) (a : Addr) : Int := match w.cell? a with
  | some (.int _ z) => z
  | _ => 0
theorem open_ops {base : Nat} {spare : Nat → Bool} {held : Bool} {v : Value} {d : DataW H} {ps : List MemPlace} {r : Reach} {b0 : Nat} (hv : Value.okWide Try.prog w r b0 91 v) (h : DataW.Trod enc Try.prog w base spare held 91 v d ps) :
    ∃ C ops c, v = .slice C (ops.length) c ∧ ops.length ≤ c ∧ (∀ op ∈ ops, OpIn op) ∧ Ops w C ops ∧ ops.length ≤ 9223372036854775807 := by
  obtain ⟨fuel, hf⟩ := h
  have hsl : ∃ A n c, v = .slice A n c := by
    cases v
    all_goals first | exact ⟨_, _, _, rfl⟩ | (exfalso; simp [Value.okWide, Cell.okWide, Cell.ok, Try.underlying91] at hv; done)
  obtain ⟨A', n', c', rfl⟩ := hsl
  rcases open_slice_fields Try.underlying91 Try.underlying100 (by kernel_rfl) (by kernel_rfl) hf with ⟨hcs, -⟩ | ⟨a, len, cap, m, hcs, hb, hl, hm, hz, hcell⟩
  · simp [Value.cells] at hcs
    obtain ⟨rfl, rfl, rfl⟩ := hcs
    exact ⟨none, [], 0, rfl, Nat.le_refl _, fun op hop => absurd hop List.not_mem_nil, fun hp => absurd hp (Nat.lt_irrefl 0), Nat.zero_le _⟩
  · simp [Value.cells] at hcs
    obtain ⟨rfl, rfl, rfl⟩ := hcs
    have hmn : n' ≤ m := by rw [hz]; split <;> omega
    have hk : ∀ i, i < n' → ∀ j, j < 6 → ∃ z : Int, w.cell? (a.add (i * 6 + j)) = some (.int .i64 z) ∧ -9223372036854775808 ≤ z ∧ z ≤ 9223372036854775807 := by
      intro i hi j hj
      have h1 : ∀ (f : Field), f.type = 3 → (∃ (v : Value) (y : DataW H × List MemPlace) (n : Nat), w.cell? (a.add (i * 6 + j)) = some v ∧ DataW.trod enc Try.prog w base spare held n f.type [v] = some y) → ∃ z : Int, w.cell? (a.add (i * 6 + j)) = some (.int .i64 z) ∧ -9223372036854775808 ≤ z ∧ z ≤ 9223372036854775807 := by
        rintro f hf ⟨v, y, n, hc, ht⟩
        rw [hf] at ht
        obtain ⟨z, hz, -, hw⟩ := DataW.trod_int Try.underlying3 ht
        simp at hz
        subst hz
        exact ⟨z, hc, bounds_i64 hw⟩
      have h2 := hcell i (by omega) j
      obtain rfl | rfl | rfl | rfl | rfl | rfl : j = 0 ∨ j = 1 ∨ j = 2 ∨ j = 3 ∨ j = 4 ∨ j = 5 := by omega
      all_goals exact h1 _ rfl (h2 _ rfl)
    have hnum : ∀ i, i < n' → ∀ j, j < 6 → w.cell? (a.add (i * 6 + j)) = some (.int .i64 (numAt w (a.add (i * 6 + j)))) ∧ -9223372036854775808 ≤ numAt w (a.add (i * 6 + j)) ∧ numAt w (a.add (i * 6 + j)) ≤ 9223372036854775807 := by
      intro i hi j hj
      obtain ⟨z, h1, h2⟩ := hk i hi j hj
      have e : numAt w (a.add (i * 6 + j)) = z := by unfold numAt; rw [h1]
      rw [e]; exact ⟨h1, h2⟩
    have hlen : ((List.range n').map fun i => (⟨numAt w (a.add (i * 6 + 0)), numAt w (a.add (i * 6 + 1)), numAt w (a.add (i * 6 + 2)), numAt w (a.add (i * 6 + 3)), numAt w (a.add (i * 6 + 4)), numAt w (a.add (i * 6 + 5))⟩ : TOp)).length = n' := by simp
    refine ⟨some a, (List.range n').map fun i => (⟨numAt w (a.add (i * 6 + 0)), numAt w (a.add (i * 6 + 1)), numAt w (a.add (i * 6 + 2)), numAt w (a.add (i * 6 + 3)), numAt w (a.add (i * 6 + 4)), numAt w (a.add (i * 6 + 5))⟩ : TOp), c', by rw [hlen], by rw [hlen]; exact hl, ?_, ?_, by rw [hlen]; unfold maxLen at hm; omega⟩
    · intro op hop
      obtain ⟨i, hi, rfl⟩ := List.mem_map.1 hop
      have hi' := List.mem_range.1 hi
      have g0 := (hnum i hi' 0 (by omega)).2
      have g1 := (hnum i hi' 1 (by omega)).2
      have g2 := (hnum i hi' 2 (by omega)).2
      have g3 := (hnum i hi' 3 (by omega)).2
      have g4 := (hnum i hi' 4 (by omega)).2
      have g5 := (hnum i hi' 5 (by omega)).2
      exact ⟨g0, g1, g2, g3, g4, g5⟩
    · intro hpos
      rw [hlen] at hpos
      have h0 := (hnum 0 hpos 0 (by omega)).1
      have ha : a = ⟨a.block, a.off, none⟩ := by
        have := spot_none h0
        simp [Addr.add] at this
        cases a; simp_all
      refine ⟨a.block, a.off, by rw [← ha], ?_, fun i hi j hj => ?_⟩
      · have := World.block_lt_of_cell? w _ h0
        simpa [Addr.add] using this
      · rw [hlen] at hi
        have h1 := (hnum i hi j hj).1
        have h2 : a.add (i * 6 + j) = ⟨a.block, a.off + i * 6 + j, none⟩ := by
          rw [ha]
          unfold Addr.add
          split
          · rename_i e; simp only [Addr.mk.injEq, and_true]; exact ⟨trivial, by omega⟩
          · simp only [Addr.mk.injEq, and_true]; exact ⟨trivial, by omega⟩
        rw [h2] at h1
        rw [h1, List.getElem_map, List.getElem_range, ← h2]
        obtain rfl | rfl | rfl | rfl | rfl | rfl : j = 0 ∨ j = 1 ∨ j = 2 ∨ j = 3 ∨ j = 4 ∨ j = 5 := by omega
        all_goals rfl
end
section
variable {H : Type} {enc : TypeId × Value → H} {W W' : World} {v : Value} {d : DataW H} {ps : List MemPlace}
theorem stays_ops (h : DataW.Trod enc Try.prog W 0 (fun _ => true) true 91 v d ps) (hb : Below W.heap.size W W') (hlt : ∀ x ∈ ps, x.block < W.heap.size) :
    DataW.Trod enc Try.prog W' 0 (fun b => decide (b < W.heap.size)) true 91 v d ps := Below.trod fLaid read91 (of_decide_eq_true size91) h hb hlt
end
end Go.Proofs.Ytjpppdacamhhfaa
