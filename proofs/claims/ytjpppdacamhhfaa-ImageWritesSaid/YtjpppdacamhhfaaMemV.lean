/- Words for memory: rows of bytes that may be full rows of any make. Conditions: none. -/
import Derived.Test.YtjpppdacamhhfaaMemU
import Derived.Deep.AppendSrc
namespace Go.Proofs.Ytjpppdacamhhfaa
open Go.RowKit
set_option linter.unusedVariables false

/-- A row of the call's own, or a full one. -/
def OwnV (w : World) (base : Nat) (v : Value) (bs : List Int) : Prop :=
  OwnU w base v bs ∨ ∃ b, v = .slice (some ⟨b, 0, none⟩) bs.length bs.length ∧ b < w.heap.size ∧ RowU w b 0 bs
theorem run_pushFull {w : World} {b : Nat} {bs : List Int} (hrow : RowU w b 0 bs) (bk c : Nat) (k : Int) (hc : w.cell? ⟨bk, 0, none⟩ = some (.int .u8 k)) (hlen : bs.length ≤ 1000000000) (base : Nat) (hbase : base ≤ w.heap.size) (ty : TypeId) :
    ∃ n cap w', (Builtin.append_ #[70, 70] ty #[.slice (some ⟨b, 0, none⟩) bs.length bs.length, .slice (some ⟨bk, 0, none⟩) 1 c]).run Try.prog w = .ok (.slice (some ⟨w.heap.size, 0, none⟩) n cap) w' ∧
      OwnU w' base (.slice (some ⟨w.heap.size, 0, none⟩) n cap) (bs ++ [k]) ∧ Below w.heap.size w w' := by
  obtain ⟨i, hi, hz0, hz1, hz2⟩ := info_parts info5
  have hsrc : Src Try.prog 1 70 (.slice (some ⟨bk, 0, none⟩) 1 c) 1 [.int .u8 k] w :=
    Src.ofSlice w Try.underlying70 ⟨bk, 0, none⟩ 1 c _ rfl (fun j u hj => by
      match j, hj with
      | 0, hj => simp at hj; subst hj; simpa [Addr.add] using hc
      | j + 1, hj => simp at hj) (fun u hu => by simp at hu; subst hu; rfl)
  have hol : (bs.map (Value.int .u8)).length = bs.length * 1 := by rw [List.length_map, Nat.mul_one]
  have hold : (Builtin.firstCells i.size bs.length (.slice (some ⟨b, 0, none⟩) bs.length bs.length)).run Try.prog w.drew = .ok (bs.map (Value.int .u8)).toArray w.drew := by
    rw [hz1]
    refine run_firstCells_some w.drew 1 bs.length ⟨b, 0, none⟩ bs.length bs.length _ hol (fun j u hj => ?_)
    rw [List.getElem?_map] at hj
    rcases Nat.lt_or_ge j bs.length with hl | hl
    · rw [List.getElem?_eq_getElem hl] at hj
      have h1 := hrow j hl
      rw [nth_eq hl, Nat.zero_add] at h1
      rw [Addr.add_lit, Nat.zero_add]
      simp at hj
      rw [← hj]; exact h1
    · rw [List.getElem?_eq_none hl] at hj; cases hj
  have hrun := run_append_grow_src (P := Try.prog) w 70 70 ty 5 i (.int .u8 0) Try.underlying70 hi hz0 (some ⟨b, 0, none⟩) bs.length bs.length (bs.map (Value.int .u8)) hold (.slice (some ⟨bk, 0, none⟩) 1 c) 1 [.int .u8 k] (by rw [hz1]; exact hsrc)
    (by omega) (by omega) (growslice_fits (by omega) (by rw [hz2]; omega))
  have hge := grownCap_ge w (bs.length + 1) bs.length 5
  have hle := grownCap_le_maxLen w (bs.length + 1) bs.length 5 (by simp only [maxLen]; omega)
  refine ⟨_, _, _, hrun, ⟨by rw [List.length_map, Nat.mul_one], .inr ⟨w.heap.size, _, _, ?_, hbase, heap_alloc_new _ _, ?_, hle, ?_, ?_⟩⟩, ?_⟩
  · rw [List.length_append]; rfl
  · rw [List.length_append]; exact hge
  · rw [Array.size_append, List.size_toArray, List.length_append, List.length_map, size_zeroCells]
    show bs.length + 1 + _ * 1 = _
    omega
  · rw [List.length_append, List.length_singleton, Nat.mul_one, Array.toList_append, List.toList_toArray, List.take_append_of_le_length (by rw [List.length_append, List.length_map]; exact Nat.le_refl _), List.take_of_length_le (by rw [List.length_append, List.length_map]; exact Nat.le_refl _), List.map_append]
    rfl
  · exact (Below.refl _ _).drew.alloc (Nat.le_refl _) _

theorem wpList_pushV {w : World} {ops : Array Oper} {rest : List Oper} {o : Oper} {a : Act} {Q : Exit → Act → World → Prop} (hgd : o.guard = none) (s x : Operand)
    (ho : o.op = .call { callee := .builtin .append, args := #[s, x], argTypes := #[70, 70] }) (base : Nat) (v : Value) (bs : List Int) (hs : a.eval s = v) (hown : OwnV w base v bs)
    (bk c : Nat) (k : Int) (hx : a.eval x = .slice (some ⟨bk, 0, none⟩) 1 c) (hc : w.cell? ⟨bk, 0, none⟩ = some (.int .u8 k)) (hlen : bs.length ≤ 1000000000) (hbase : base ≤ w.heap.size)
    (h : ∀ g n cap w', OwnU w' base (.slice (some ⟨g, 0, none⟩) n cap) (bs ++ [k]) → base ≤ g → Below base w w' → wpList Try.prog ops Q rest (a.put o.dst (.slice (some ⟨g, 0, none⟩) n cap)) w') :
    wpList Try.prog ops Q (o :: rest) a w := by
  rcases hown with hown | ⟨b, rfl, hb, hrow⟩
  · exact wpList_pushNU hgd s x ho base v bs hs hown bk c k hx hc hlen hbase fun g n cap w' h1 h2 h3 =>
      h g n cap w' h1 h2 ((Below.refl base w).grown h3 hbase (fun q hq => (hown.lt q hq).1))
  · refine wpList_plain hgd fun K' hK' => ?_
    obtain ⟨n, cap, w', hrun, h1, h2⟩ := run_pushFull hrow bk c k hc hlen base hbase o.type
    unfold Oper.wp
    simp [execOp, ho, resolve, invoke, builtin, hs, hx, hrun, Result.andThen]
    exact hK' _ _ (h _ n cap w' h1 hbase (h2.mono hbase))
theorem OwnV.alloc {w : World} {base : Nat} {v : Value} {bs : List Int} (h : OwnV w base v bs) (o : Obj) : OwnV (w.alloc o) base v bs := by
  rcases h with h | ⟨b, rfl, hb, hr⟩
  · exact .inl (h.alloc o)
  · refine .inr ⟨b, rfl, by rw [World.size_alloc]; omega, hr.below ((Below.refl _ _).alloc (Nat.le_refl _) o) hb⟩
end Go.Proofs.Ytjpppdacamhhfaa
