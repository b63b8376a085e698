/- Ranging over a map of numbers. Conditions: the map is not changed meanwhile. -/
import Derived.Test.YtjpppdacamhhfaaSeen
import Derived.Maps.RangeWalk
namespace Go.Proofs.Ytjpppdacamhhfaa
open Go.RowKit Go.Maps Go.MapKept Go.ChangeMaps
set_option linter.unusedVariables false

/-- Block r goes over the map in block M, which answers as f says; the keys in done have come already. -/
def RangI (w : World) (M r : Nat) (f : Int → Option Value) (done : List Int) : Prop :=
  ∃ es clock since seen c0, w.heap[M]? = some (.map es clock) ∧ w.heap[r]? = some (.mapIter (some M) since seen c0) ∧ Stamped es clock ∧
    (∀ x ∈ es.toList, ∃ k : Int, (Lit.int .i64 k).wf = true ∧ x.key = .int .i64 k ∧ f k = some x.val) ∧ (∀ k v, f k = some v → ∃ x ∈ es.toList, x.key = .int .i64 k) ∧
    (∀ x ∈ es.toList, x.born < since) ∧ since ≤ c0 ∧ since ≤ clock ∧ (∀ x ∈ es.toList, seen.contains x.born = true → ∃ k ∈ done, x.key = .int .i64 k) ∧ M ≠ r

section
variable {w : World} {M r n : Nat} {f : Int → Option Value} {done : List Int}
theorem RangI.lt (h : RangI w M r f done) : M < w.heap.size ∧ r < w.heap.size := by
  obtain ⟨es, clock, since, seen, c0, hb, hr, _⟩ := h
  exact ⟨(Array.getElem?_eq_some_iff.1 hb).1, (Array.getElem?_eq_some_iff.1 hr).1⟩
theorem RangI.kept {w' : World} (h : RangI w M r f done) (h1 : w'.heap[M]? = w.heap[M]?) (h2 : w'.heap[r]? = w.heap[r]?) : RangI w' M r f done ∧ w'.rangeLeft M r = w.rangeLeft M r := by
  obtain ⟨es, clock, since, seen, c0, hb, hr, rest⟩ := h
  refine ⟨⟨es, clock, since, seen, c0, h1.trans hb, h2.trans hr, rest⟩, ?_⟩
  simp only [World.rangeLeft, h1, h2]
theorem RangI.below {w' : World} {B : Nat} (h : RangI w M r f done) (hb : Below B w w') (h1 : M < B) (h2 : r < B) : RangI w' M r f done := (h.kept (hb.block _ h1) (hb.block _ h2)).1
theorem MapI.rangeI (h : MapI w M n f) {t e : TypeId} (ht : Try.prog.underlying t = some (.map 3 e)) :
    ∃ w', (Instr.range t (.map (some M))).run Try.prog w = .ok (.pointer (some ⟨w.heap.size, 0, none⟩)) w' ∧ RangI w' M w.heap.size f [] ∧ Below w.heap.size w w' ∧ w'.heap.size = w.heap.size + 1 := by
  have hlt := h.lt
  obtain ⟨es, clock, hb, -, hst, hk, hf⟩ := h
  refine ⟨_, run_range_map w t 3 e M es clock ht hb, ⟨es, clock, clock, #[], clock, ?_, heap_alloc_new w _, hst, hk, hf, hst.1, Nat.le_refl _, Nat.le_refl _, ?_, by omega⟩, (Below.refl _ _).alloc (Nat.le_refl _) _, by simp⟩
  · exact (Below.heap_alloc w _ M hlt).trans hb
  · intro x _ hx; simp at hx
theorem RangI.next (h : RangI w M r f done) (ty : TypeId) :
    ((∀ k v, f k = some v → k ∈ done) ∧ (Instr.next (.pointer (some ⟨r, 0, none⟩)) false ty).run Try.prog w = .ok (.tuple #[.bool false]) w) ∨
    ∃ k v w', f k = some v ∧ (Lit.int .i64 k).wf = true ∧ (Instr.next (.pointer (some ⟨r, 0, none⟩)) false ty).run Try.prog w = .ok (.tuple #[.bool true, .int .i64 k, v]) w' ∧
      RangI w' M r f (done ++ [k]) ∧ w'.rangeLeft M r < w.rangeLeft M r ∧ w.grownBy w' (some r) ∧ w'.heap.size = w.heap.size ∧ (Instr.entry (.pointer (some ⟨r, 0, none⟩))).run Try.prog w' = .ok (.tuple #[.int .i64 k, v]) w' := by
  obtain ⟨es, clock, since, seen, c0, hb, hr, hst, hk, hf, hold, hsc, hsk, hdn, hne⟩ := h
  rcases run_next_at (P := Try.prog) w ty r M since c0 seen es clock hr hb hold hsc with ⟨h0, hrun⟩ | ⟨e, he, w1, hal, hrun⟩
  · refine .inl ⟨fun k v hkv => ?_, hrun⟩
    obtain ⟨x, hx, hxk⟩ := hf k v hkv
    obtain ⟨k', hk', e'⟩ := hdn x hx (all_seen es seen h0 x hx)
    rw [hxk] at e'
    cases e'
    exact hk'
  · obtain ⟨hem, hes⟩ := mem_left he
    obtain ⟨k, hwf, hke, hfk⟩ := hk e hem
    have hr1 : w1.heap[r]? = some (.mapIter (some M) since seen c0) := by rcases hal with rfl | rfl <;> exact hr
    have hb1 : w1.heap[M]? = some (.map es clock) := by rcases hal with rfl | rfl <;> exact hb
    have hset := heap_set (o' := .mapIter (some M) since (seen.push e.born) clock) hr1
    have hb' : (setBlock w1 r (.mapIter (some M) since (seen.push e.born) clock)).heap[M]? = some (.map es clock) := (hset.2 M hne).trans hb1
    have hr' : (setBlock w1 r (.mapIter (some M) since (seen.push e.born) clock)).heap[r]? = some (.mapIter (some M) since (seen.push e.born) clock) := hset.1
    have hst2 := (stamped_iff es clock).1 hst
    refine .inr ⟨k, e.val, _, hfk, hwf, by rw [← hke]; exact hrun, ⟨es, clock, since, seen.push e.born, clock, hb', hr', hst, hk, hf, hold, hsk, hsk, fun x hx hs => ?_, hne⟩, ?_, ?_, ?_, ?_⟩
    · rw [contains_push] at hs
      by_cases hbe : x.born = e.born
      · obtain rfl := born_inj hst2.2.1 hx hem hbe
        exact ⟨k, by simp, hke⟩
      · have hb2 : (x.born == e.born) = false := by simp [hbe]
        rw [hb2, Bool.or_false] at hs
        obtain ⟨k', h1, h2⟩ := hdn x hx hs
        exact ⟨k', List.mem_append_left _ h1, h2⟩
    · simp only [World.rangeLeft, hb', hr', hb, hr]
      exact left_shrinks es seen e he
    · rcases hal with rfl | rfl <;> exact ⟨rfl, rfl, rfl, by simp [setBlock], fun i _ hi => hset.2 i (fun e1 => hi (by rw [e1]))⟩
    · rcases hal with rfl | rfl <;> simp [setBlock]
    · rw [← hke]; exact run_entry_at _ r M since seen es clock e hr' hb' hem hst2.2.1
end
section
variable {w : World} {ops : Array Oper} {rest : List Oper} {o : Oper} {a : Act} {Q : Exit → Act → World → Prop} {M r n : Nat} {f : Int → Option Value} {done : List Int}
theorem wpList_rangeI (hg : o.guard = none) (m : Operand) (t e : TypeId) (hop : o.op = Op.range t m) (ht : Try.prog.underlying t = some (.map 3 e)) (hm : a.eval m = .map (some M)) (h : MapI w M n f)
    (hK : ∀ w', RangI w' M w.heap.size f [] → Below w.heap.size w w' → w'.heap.size = w.heap.size + 1 → wpList Try.prog ops Q rest (a.put o.dst (.pointer (some ⟨w.heap.size, 0, none⟩))) w') :
    wpList Try.prog ops Q (o :: rest) a w := by
  refine wpList_plain hg fun K' hK' => ?_
  obtain ⟨w', hrun, r1, r2, r3⟩ := h.rangeI ht
  unfold Oper.wp
  simp [execOp, hop, hm, hrun, Result.andThen]
  exact hK' _ _ (hK w' r1 r2 r3)
theorem wpList_nextI (hg : o.guard = none) (it : Operand) (hop : o.op = Op.next it false) (hit : a.eval it = .pointer (some ⟨r, 0, none⟩)) (h : RangI w M r f done)
    (hDone : (∀ k v, f k = some v → k ∈ done) → wpList Try.prog ops Q rest (a.put o.dst (.tuple #[.bool false])) w)
    (hMore : ∀ k v w', f k = some v → (Lit.int .i64 k).wf = true → RangI w' M r f (done ++ [k]) → w'.rangeLeft M r < w.rangeLeft M r → w.grownBy w' (some r) → w'.heap.size = w.heap.size →
      (Instr.entry (.pointer (some ⟨r, 0, none⟩))).run Try.prog w' = .ok (.tuple #[.int .i64 k, v]) w' → wpList Try.prog ops Q rest (a.put o.dst (.tuple #[.bool true, .int .i64 k, v])) w') :
    wpList Try.prog ops Q (o :: rest) a w := by
  refine wpList_plain hg fun K' hK' => ?_
  unfold Oper.wp
  rcases h.next o.type with ⟨h0, hrun⟩ | ⟨k, v, w', h1, h2, hrun, h3, h4, h5, h6, h7⟩
  · simp [execOp, hop, hit, hrun, Result.andThen]
    exact hK' _ _ (hDone h0)
  · simp [execOp, hop, hit, hrun, Result.andThen]
    exact hK' _ _ (hMore k v w' h1 h2 h3 h4 h5 h6 h7)
end
end Go.Proofs.Ytjpppdacamhhfaa
