/- More words for memory: an append of so many zeros. Conditions: none. -/
import Derived.Test.YtjpppdacamhhfaaMem2
import Derived.Lib.AppendZerosOnto
namespace Go.Proofs.Ytjpppdacamhhfaa
open Go.RowKit
set_option linter.unusedVariables false

theorem zeroCells_int (k : Nat) : Builtin.zeroCells (Value.int .i64 0).cells k = (List.replicate k (Value.int .i64 0)).toArray := by
  apply Array.ext
  · simp [Builtin.zeroCells, Value.cells]
  · intro i h1 h2
    simp [Builtin.zeroCells, Value.cells, Nat.mod_one]

theorem run_ext {w : World} {base g n cap : Nat} {xs : List Int} (hown : Own w base (.slice (some ⟨g, 0, none⟩) n cap) xs) (k : Nat) (hk : n + k ≤ 1000000000) (hbase : base ≤ w.heap.size) (ty : TypeId) :
    ∃ g' c' w', (Builtin.append_ #[22, 3] ty #[.slice (some ⟨g, 0, none⟩) n cap, .int .i64 k]).run Try.prog w = .ok (.slice (some ⟨g', 0, none⟩) (n + k) c') w' ∧ Own w' base (.slice (some ⟨g', 0, none⟩) (n + k) c') (xs ++ List.replicate k 0) ∧ w.grownBy w' (some g) := by
  obtain ⟨i, hi, hz0, hz1, hz2⟩ := info_parts info3
  obtain rfl : n = xs.length := hown.len
  have hown' := hown
  have hcp := hown.cap_
  have key : ∀ v w', World.ownsRow w' base 3 1 v (xs.length + k) (xs.map (Value.int .i64) ++ List.replicate k (Value.int .i64 0)) → Own w' base v (xs ++ List.replicate k 0) := by
    intro v w' h
    unfold Own
    rw [List.length_append, List.length_replicate, List.map_append, List.map_replicate]; exact h
  rcases hown.2 with ⟨h', _⟩ | ⟨g', cap', cur, h', hb, hg, hnc, hcm, hcs, htake⟩
  · cases h'
  simp at h'
  obtain ⟨rfl, rfl⟩ := h'
  have hw : IntKind.i64.wrap (k : Int) = k := by rw [IntKind.wrap_i64]; omega
  have hneg : ¬ ((k : Int) < 0) := by omega
  have h48i : ¬ (281474976710656 < (k : Int) * (i.bytes : Int)) := by rw [hz2]; omega
  by_cases hroom : xs.length + k ≤ cap
  · by_cases h0 : k = 0
    · subst h0
      refine ⟨g, cap, w, ?_, by simpa using hown', World.grownBy.refl w _⟩
      simp [Builtin.append_, run_underlying Try.underlying22, run_underlying Try.underlying3, sizeOf, typeInfo, hi, asInt, asIntOf, hnc, storeCells, IntKind.wrap_i64]
    · have hfit : xs.length * i.size + (List.replicate k (Value.int .i64 0)).length ≤ cur.size := by rw [hz1, List.length_replicate, hcs]; omega
      have hst := run_storeCells_at Try.prog g (xs.length * i.size) 3 (List.replicate k (Value.int .i64 0)) 0 cur w hg (by simpa using hfit) (fun u hu => by rw [(List.mem_replicate.1 hu).2]; rfl)
      simp only [Nat.add_zero] at hst
      rw [List.length_replicate] at hst
      generalize hrw : (List.take (xs.length * i.size) cur.toList ++ List.replicate k (Value.int .i64 0) ++ List.drop (xs.length * i.size + k) cur.toList).toArray = row at hst
      have hns : ¬ (k * i.size = 0) := by rw [hz1]; omega
      refine ⟨g, cap, w.setRow g row, ?_, key _ _ ⟨by simp, .inr ⟨g, cap, row, rfl, hb, setRow_heap w g cur _ 3 _ hg, hroom, hcm, ?_, ?_⟩⟩, ⟨rfl, rfl, rfl, by simp, fun j _ hj => setRow_other w g j _ (fun e => hj (by rw [e]))⟩⟩
      · simp [Builtin.append_, run_underlying Try.underlying22, run_underlying Try.underlying3, sizeOf, typeInfo, zeroValue, hi, hz0, asInt, asIntOf, hw, hneg, h48i, hroom, hns, Addr.add_lit, zeroCells_int, hst]
      · subst hrw
        rw [hz1, Nat.mul_one] at *
        simp only [List.size_toArray, List.length_append, List.length_take, List.length_drop, Array.length_toList, List.length_replicate] at *
        omega
      · subst hrw
        rw [hz1] at *
        have e1 : cur.toList.take (xs.length * 1) = xs.map (Value.int .i64) := htake
        rw [e1]
        have e2 : (xs.length + k) * 1 = (xs.map (Value.int .i64) ++ List.replicate k (Value.int .i64 0)).length := by simp
        rw [e2]; exact List.take_left
  · have h0 : 0 < k := by omega
    have hold : (Builtin.firstCells i.size xs.length (.slice (some ⟨g, 0, none⟩) xs.length cap)).run Try.prog w.drew = .ok (xs.map (Value.int .i64)).toArray w.drew := by
      refine run_firstCells_some w.drew i.size xs.length ⟨g, 0, none⟩ xs.length cap _ (by rw [hz1]; simp) (fun j v hv => ?_)
      have hj : j < xs.length := by
        rw [List.getElem?_map] at hv
        rcases Nat.lt_or_ge j xs.length with h | h
        · exact h
        · rw [List.getElem?_eq_none h] at hv; cases hv
      have hc := hown'.cell j hj
      have e : (⟨g, 0, none⟩ : Addr).add j = ⟨g, j, none⟩ := by
        rw [Addr.add_lit]; simp
      rw [e]
      rw [List.getElem?_map, List.getElem?_eq_getElem hj] at hv
      have : w.drew.cell? ⟨g, j, none⟩ = w.cell? ⟨g, j, none⟩ := rfl
      rw [this, hc, nth_eq hj]; simpa using hv
    have hr := Lib.run_append_grow_zeros (P := Try.prog) w 22 3 ty 3 i (.int .i64 0) .i64 .i64 Try.underlying22 Try.underlying3 hi hz0 (some ⟨g, 0, none⟩) xs.length cap (xs.map (Value.int .i64)) hold k h0 (by omega) (by omega) (by omega) (by rw [hz2]; omega) (by rw [hz2]; exact growslice_fits (by omega) (by omega))
    rw [zeroCells_int, zeroCells_int] at hr
    refine ⟨_, _, _, hr, key _ _ ⟨by simp, .inr ⟨w.heap.size, _, _, rfl, hbase, heap_alloc_new w.drew _, grownCap_ge w _ cap 3, grownCap_le_maxLen w _ cap 3 (by simp only [maxLen]; omega), ?_, ?_⟩⟩, ⟨rfl, rfl, rfl, by simp, fun j hj _ => Below.heap_alloc w.drew _ j hj⟩⟩
    · have := grownCap_ge w (xs.length + k) cap 3
      simp; omega
    · have e2 : (xs.length + k) * 1 = (xs.map (Value.int .i64) ++ List.replicate k (Value.int .i64 0)).length := by simp
      simp only [Array.toList_append]
      rw [e2, List.append_assoc, ← List.append_assoc]
      exact List.take_left

theorem wpList_ext {w : World} {ops : Array Oper} {rest : List Oper} {o : Oper} {a : Act} {Q : Exit → Act → World → Prop} (hgd : o.guard = none) (s x : Operand)
    (ho : o.op = .call { callee := .builtin .append, args := #[s, x], argTypes := #[22, 3] }) (base g n cap : Nat) (xs : List Int) (hs : a.eval s = .slice (some ⟨g, 0, none⟩) n cap) (hown : Own w base (.slice (some ⟨g, 0, none⟩) n cap) xs)
    (k : Nat) (hx : a.eval x = .int .i64 k) (hlen : n + k ≤ 1000000000) (hbase : base ≤ w.heap.size)
    (h : ∀ g' cap' w', Own w' base (.slice (some ⟨g', 0, none⟩) (n + k) cap') (xs ++ List.replicate k 0) → w.grownBy w' (some g) → wpList Try.prog ops Q rest (a.put o.dst (.slice (some ⟨g', 0, none⟩) (n + k) cap')) w') :
    wpList Try.prog ops Q (o :: rest) a w := by
  refine wpList_plain hgd fun K hK => ?_
  obtain ⟨g', c', w', hrun, h2, h3⟩ := run_ext hown k hlen hbase o.type
  unfold Oper.wp execOp
  simp only [ho, resolve, invoke, builtin, Sem.run_bind, Sem.run_pure, Result.andThen_ok, List.map_toArray, List.map_cons, List.map_nil, hs, hx, hrun]
  exact hK _ _ (h g' c' w' h2 h3)

/-- A block that has just been made of numbers. -/
theorem ints_new (w : World) (xs : List Int) : Ints (w.alloc (.cells (xs.map (Value.int .i64)).toArray 3)) (some ⟨w.heap.size, 0, none⟩) xs := fun h => by
  refine ⟨w.heap.size, 0, rfl, by simp, fun j hj => ?_⟩
  rw [Nat.zero_add, cell_new]
  simp [hj, nth_eq hj]

theorem below_of_drew {B : Nat} {w w' : World} (h : Below B w.drew w') : Below B w w' := ⟨h.os, h.tape, h.output, h.size, h.block⟩

end Go.Proofs.Ytjpppdacamhhfaa
