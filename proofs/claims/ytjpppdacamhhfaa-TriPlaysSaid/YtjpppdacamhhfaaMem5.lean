/- Words for memory: appends whose result's length has a name of its own. Conditions: none. -/
import Derived.Test.YtjpppdacamhhfaaMem4
namespace Go.Proofs.Ytjpppdacamhhfaa
open Go.RowKit
set_option linter.unusedVariables false

theorem wpList_pushN {w : World} {ops : Array Oper} {rest : List Oper} {o : Oper} {a : Act} {Q : Exit → Act → World → Prop} (hgd : o.guard = none) (s x : Operand)
    (ho : o.op = .call { callee := .builtin .append, args := #[s, x], argTypes := #[22, 22] }) (base : Nat) (v : Value) (xs : List Int) (hs : a.eval s = v) (hown : Own w base v xs)
    (bk c : Nat) (k : Int) (hx : a.eval x = .slice (some ⟨bk, 0, none⟩) 1 c) (hc : w.cell? ⟨bk, 0, none⟩ = some (.int .i64 k)) (hlen : xs.length ≤ 1000000000) (hbase : base ≤ w.heap.size)
    (h : ∀ g n cap w', Own w' base (.slice (some ⟨g, 0, none⟩) n cap) (xs ++ [k]) → base ≤ g → w.grownBy w' v.ownBlock → wpList Try.prog ops Q rest (a.put o.dst (.slice (some ⟨g, 0, none⟩) n cap)) w') :
    wpList Try.prog ops Q (o :: rest) a w :=
  wpList_push hgd s x ho base v xs hs hown bk c k hx hc hlen hbase fun g cap w' h1 h2 h3 => h g _ cap w' h1 h2 h3

theorem wpList_joinN {w : World} {ops : Array Oper} {rest : List Oper} {o : Oper} {a : Act} {Q : Exit → Act → World → Prop} (hgd : o.guard = none) (s x : Operand)
    (ho : o.op = .call { callee := .builtin .append, args := #[s, x], argTypes := #[22, 22] }) (base : Nat) (v : Value) (xs : List Int) (hs : a.eval s = v) (hown : Own w base v xs)
    (A : Option Addr) (c : Nat) (ys : List Int) (hx : a.eval x = .slice A ys.length c) (hy : Ints w A ys) (hlen : xs.length + ys.length ≤ 1000000000) (hbase : base ≤ w.heap.size)
    (h : ∀ A' n cap w', Own w' base (.slice A' n cap) (xs ++ ys) → w.grownBy w' v.ownBlock → wpList Try.prog ops Q rest (a.put o.dst (.slice A' n cap)) w') :
    wpList Try.prog ops Q (o :: rest) a w :=
  wpList_join hgd s x ho base v xs hs hown A c ys hx hy hlen hbase fun A' cap w' h1 h2 _ => h A' _ cap w' h1 h2

theorem step_joinN {w : World} {ops : Array Oper} {o : Oper} {a : Act} {K : Act → World → Prop} {Q : Exit → Act → World → Prop} {E : Prop} (hgd : o.guard = none) (s x : Operand)
    (ho : o.op = .call { callee := .builtin .append, args := #[s, x], argTypes := #[22, 22] }) (base : Nat) (v : Value) (xs : List Int) (hs : a.eval s = v) (hown : Own w base v xs)
    (A : Option Addr) (c : Nat) (ys : List Int) (hx : a.eval x = .slice A ys.length c) (hy : Ints w A ys) (hlen : xs.length + ys.length ≤ 1000000000) (hbase : base ≤ w.heap.size)
    (h : ∀ A' n cap w', Own w' base (.slice A' n cap) (xs ++ ys) → w.grownBy w' v.ownBlock → K (a.put o.dst (.slice A' n cap)) w') :
    if Region.wanted o (yielded ops a.tmps) = true then Oper.wp Try.prog o a w K Q else E :=
  step_join hgd s x ho base v xs hs hown A c ys hx hy hlen hbase fun A' cap w' h1 h2 _ => h A' _ cap w' h1 h2

/-- The same, and where the row then lies: where it lay, or in a new block. -/
theorem wpList_joinM {w : World} {ops : Array Oper} {rest : List Oper} {o : Oper} {a : Act} {Q : Exit → Act → World → Prop} (hgd : o.guard = none) (s x : Operand)
    (ho : o.op = .call { callee := .builtin .append, args := #[s, x], argTypes := #[22, 22] }) (base : Nat) (v : Value) (xs : List Int) (hs : a.eval s = v) (hown : Own w base v xs)
    (A : Option Addr) (c : Nat) (ys : List Int) (hx : a.eval x = .slice A ys.length c) (hy : Ints w A ys) (hlen : xs.length + ys.length ≤ 1000000000) (hbase : base ≤ w.heap.size)
    (h : ∀ A' n cap w', Own w' base (.slice A' n cap) (xs ++ ys) → w.grownBy w' v.ownBlock → (∀ k, (Value.slice A' n cap).ownBlock = some k → v.ownBlock = some k ∨ k = w.heap.size) → wpList Try.prog ops Q rest (a.put o.dst (.slice A' n cap)) w') :
    wpList Try.prog ops Q (o :: rest) a w :=
  wpList_join hgd s x ho base v xs hs hown A c ys hx hy hlen hbase fun A' cap w' h1 h2 h3 => h A' _ cap w' h1 h2 fun k hk => by
    rcases h3 with h3 | h3
    · exact .inl (h3 ▸ hk)
    · rw [h3] at hk; cases hk; exact .inr rfl
theorem step_joinM {w : World} {ops : Array Oper} {o : Oper} {a : Act} {K : Act → World → Prop} {Q : Exit → Act → World → Prop} {E : Prop} (hgd : o.guard = none) (s x : Operand)
    (ho : o.op = .call { callee := .builtin .append, args := #[s, x], argTypes := #[22, 22] }) (base : Nat) (v : Value) (xs : List Int) (hs : a.eval s = v) (hown : Own w base v xs)
    (A : Option Addr) (c : Nat) (ys : List Int) (hx : a.eval x = .slice A ys.length c) (hy : Ints w A ys) (hlen : xs.length + ys.length ≤ 1000000000) (hbase : base ≤ w.heap.size)
    (h : ∀ A' n cap w', Own w' base (.slice A' n cap) (xs ++ ys) → w.grownBy w' v.ownBlock → (∀ k, (Value.slice A' n cap).ownBlock = some k → v.ownBlock = some k ∨ k = w.heap.size) → K (a.put o.dst (.slice A' n cap)) w') :
    if Region.wanted o (yielded ops a.tmps) = true then Oper.wp Try.prog o a w K Q else E :=
  step_join hgd s x ho base v xs hs hown A c ys hx hy hlen hbase fun A' cap w' h1 h2 h3 => h A' _ cap w' h1 h2 fun k hk => by
    rcases h3 with h3 | h3
    · exact .inl (h3 ▸ hk)
    · rw [h3] at hk; cases hk; exact .inr rfl

/-- 'make([]int, 0, n)': its run. -/
theorem run_makeN (w : World) (base n : Nat) (hn : n ≤ 1000000000) (hbase : base ≤ w.heap.size) :
    ∃ w', (Instr.makeSlice 22 (.int .i64 0) (.int .i64 n)).run Try.prog w = .ok (.slice (some ⟨w.heap.size, 0, none⟩) 0 n) w' ∧ Own w' base (.slice (some ⟨w.heap.size, 0, none⟩) 0 n) [] ∧ w.grownBy w' none := by
  obtain ⟨i, hi, hz0, hz1, hz2⟩ := info_parts info3
  exact run_make_own (P := Try.prog) w base 22 3 i (.int .i64 0) 1 Try.underlying22 hi hz0 hz1 .i64 .i64 n (by rw [hz2]; omega) (by simp only [maxLen]; omega) hbase

/-- What a row's value tells: its length. -/
theorem Own.form3 {w : World} {base : Nat} {v : Value} {xs : List Int} (h : Own w base v xs) : ∃ A n c, v = .slice A n c ∧ n = xs.length ∧ n ≤ c ∧ Ints w A xs := by
  obtain ⟨A, c, hv, hA, hc, _⟩ := h.form2
  exact ⟨A, xs.length, c, hv, rfl, hc, hA⟩

end Go.Proofs.Ytjpppdacamhhfaa
