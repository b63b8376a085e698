/- Words for memory: rows of Booleans; a row made shorter. Conditions: none. -/
import Derived.Test.YtjpppdacamhhfaaMem3
import Derived.Test.YtjpppdacamhhfaaRSpec
namespace Go.Proofs.Ytjpppdacamhhfaa
open Go.RowKit
set_option linter.unusedVariables false

def bools (f : Nat → Bool) (n : Nat) : List Value := (List.range n).map fun k => .bool (f k)
theorem bools_len (f : Nat → Bool) (n : Nat) : (bools f n).length = n := by simp [bools]
theorem bools_get {f : Nat → Bool} {n k : Nat} (h : k < n) : (bools f n)[k]? = some (.bool (f k)) := by simp [bools, h]
theorem bools_set (f : Nat → Bool) (n p : Nat) : (bools f n).set p (.bool true) = bools (put1 f p) n := by
  apply List.ext_getElem?
  intro k
  rw [List.getElem?_set]
  rcases Nat.lt_or_ge k n with h | h
  · rw [bools_get h, bools_get h]
    split
    · rename_i e; subst e; rw [if_pos (by rw [bools_len]; exact h), put1_same]
    · rename_i e; rw [put1_ne f (fun e' => e e'.symm)]
  · rw [List.getElem?_eq_none (by rw [bools_len]; exact h), List.getElem?_eq_none (by rw [bools_len]; exact h)]
    split
    · rw [if_neg (by rw [bools_len]; omega)]
    · rfl
/-- A row of n Booleans of the call's own. -/
def OwnB (w : World) (base : Nat) (v : Value) (f : Nat → Bool) (n : Nat) : Prop := w.ownsRow base 4 1 v n (bools f n)
theorem info4 : (Try.prog.info? 4).map (fun i => (i.zero, i.size, i.bytes)) = some (some (.bool false), 1, 1) := by kernel_rfl
section
variable {w w' : World} {base g n cap : Nat} {f : Nat → Bool} {v : Value}
theorem OwnB.below {B : Nat} (h : OwnB w base v f n) (hb : Below B w w') (hv : ∀ k, v.ownBlock = some k → k < B) : OwnB w' base v f n := by
  refine ⟨h.1, ?_⟩
  rcases h.2 with h2 | ⟨g, cap, cur, hv', hg, hh, r⟩
  · exact Or.inl h2
  · exact Or.inr ⟨g, cap, cur, hv', hg, (hb.block g (hv g (by rw [hv']; rfl))).trans hh, r⟩
theorem OwnB.alloc (h : OwnB w base v f n) (o : Obj) : OwnB (w.alloc o) base v f n := World.ownsRow.alloc h o
theorem OwnB.drewN (h : OwnB w base v f n) (m : Nat) : OwnB (w.drewN m) base v f n := h
theorem OwnB.setCell (h : OwnB w base v f n) (a : Addr) (ha : v.ownBlock ≠ some a.block) (u : Value) : OwnB (w.setCell a u) base v f n := ownsRow_setCell_other h ha u
theorem OwnB.grown {r : Option Nat} (h : OwnB w base v f n) (hg : w.grownBy w' r) (hne : v.ownBlock = none ∨ v.ownBlock ≠ r) : OwnB w' base v f n := World.ownsRow.kept h hg hne
theorem OwnB.lt (h : OwnB w base v f n) : ∀ k, v.ownBlock = some k → base ≤ k ∧ k < w.heap.size := World.ownsRow.lt h
theorem OwnB.block (h : OwnB w base (.slice (some ⟨g, 0, none⟩) n cap) f n) : base ≤ g ∧ g < w.heap.size := h.lt g rfl
theorem OwnB.cell (h : OwnB w base (.slice (some ⟨g, 0, none⟩) n cap) f n) (j : Nat) (hj : j < n) : w.cell? ⟨g, j, none⟩ = some (.bool (f j)) := by
  have := World.ownsRow.cellAt h j (by rw [Nat.mul_one]; omega)
  rw [this]; exact bools_get hj
theorem OwnB.frz (h : OwnB w base (.slice (some ⟨g, 0, none⟩) n cap) f n) (j : Nat) : w.frozen? ⟨g, j, none⟩ = false := World.ownsRow.frozenAt h j
theorem OwnB.put (h : OwnB w base (.slice (some ⟨g, 0, none⟩) n cap) f n) (j : Nat) : OwnB (w.setCell ⟨g, j, none⟩ (.bool true)) base (.slice (some ⟨g, 0, none⟩) n cap) (put1 f j) n := by
  have := (World.ownsRow.stored h j (.bool true)).1
  unfold OwnB
  rw [bools_set] at this; exact this
theorem OwnB.mono {base' : Nat} (h : OwnB w base v f n) (hb : base' ≤ base) : OwnB w base' v f n := by
  rcases h with ⟨h1, h2 | ⟨g, cap, cur, hv, hg, r⟩⟩
  · exact ⟨h1, .inl h2⟩
  · exact ⟨h1, .inr ⟨g, cap, cur, hv, Nat.le_trans hb hg, r⟩⟩
theorem OwnB.congr {f' : Nat → Bool} (h : OwnB w base v f n) (e : f = f') : OwnB w base v f' n := by subst e; exact h
end

/-- 'make([]bool, n)'. -/
theorem wpList_falses {w : World} {ops : Array Oper} {rest : List Oper} {o : Oper} {a : Act} {Q : Exit → Act → World → Prop} (hgd : o.guard = none) (l c : Operand)
    (ho : o.op = .makeSlice 64 l c) (base n : Nat) (hl : a.eval l = .int .i64 n) (hc : a.eval c = .int .i64 n) (hn : n ≤ 1000000000) (hbase : base ≤ w.heap.size)
    (h : ∀ w', OwnB w' base (.slice (some ⟨w.heap.size, 0, none⟩) n n) (fun _ => false) n → w.grownBy w' none → wpList Try.prog ops Q rest (a.put o.dst (.slice (some ⟨w.heap.size, 0, none⟩) n n)) w') :
    wpList Try.prog ops Q (o :: rest) a w := by
  obtain ⟨i, hi, hz0, hz1, hz2⟩ := info_parts info4
  refine wpList_make_full w hgd l c 64 ho base 4 i (.bool false) 1 Try.underlying64 hi hz0 hz1 .i64 .i64 n n n hl hc rfl rfl (by rw [hz2]; omega) (by simp only [maxLen]; omega) hbase ?_
  intro w' h1 h2
  refine h w' ?_ h2
  unfold OwnB
  have e : (madeCells (Value.bool false).cells (n * 1)).toList = bools (fun _ => false) n := by
    rw [Nat.mul_one]
    have := toList_madeCells_one (Value.bool false) n
    rw [show (Value.bool false).cells = #[Value.bool false] from rfl] at *
    rw [this]
    apply List.ext_getElem?
    intro k
    rcases Nat.lt_or_ge k n with hk | hk
    · rw [bools_get hk]; simp [hk]
    · rw [List.getElem?_eq_none (by simpa using hk), List.getElem?_eq_none (by rw [bools_len]; exact hk)]
  rw [← e]; exact h1

/-- A row of the call's own made shorter: 'xs[:n]'. -/
theorem Own.cut {w : World} {base g n cap : Nat} {xs : List Int} (h : Own w base (.slice (some ⟨g, 0, none⟩) n cap) xs) {k : Nat} (hk : k ≤ n) : Own w base (.slice (some ⟨g, 0, none⟩) k cap) (xs.take k) := by
  have e := h.len
  subst e
  have hkl : (xs.take k).length = k := by rw [List.length_take]; omega
  unfold Own
  rw [hkl]
  rcases h with ⟨h1, h2 | ⟨g', cap', cur, hv, hg, hh, hn, hm, hc, ht⟩⟩
  · cases h2.1
  · simp at hv
    obtain ⟨rfl, rfl⟩ := hv
    refine ⟨?_, .inr ⟨g, cap, cur, rfl, hg, hh, by omega, hm, hc, ?_⟩⟩
    · simp; omega
    · rw [Nat.mul_one] at *
      have : cur.toList.take k = (cur.toList.take xs.length).take k := by rw [List.take_take, Nat.min_eq_left hk]
      rw [this, ht, List.map_take]

end Go.Proofs.Ytjpppdacamhhfaa
