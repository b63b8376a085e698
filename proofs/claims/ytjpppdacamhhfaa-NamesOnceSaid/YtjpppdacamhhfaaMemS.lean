/- Words for memory: rows of texts. Conditions: none. -/
import Derived.Test.YtjpppdacamhhfaaMemU
namespace Go.Proofs.Ytjpppdacamhhfaa
open Go.RowKit
set_option linter.unusedVariables false

/-- The text at a place. -/
def stn (xs : List ByteArray) (j : Nat) : ByteArray := xs.getD j ByteArray.empty
theorem stn_eq {xs : List ByteArray} {j : Nat} (h : j < xs.length) : stn xs j = xs[j] := by simp [stn, h]
def RowS (w : World) (b o : Nat) (xs : List ByteArray) : Prop := ∀ j, j < xs.length → w.cell? ⟨b, o + j, none⟩ = some (.string (stn xs j))
theorem RowS.below {w w' : World} {B b o : Nat} {xs : List ByteArray} (h : RowS w b o xs) (hb : Below B w w') (hB : b < B) : RowS w' b o xs :=
  fun j hj => (hb.cell (p := ⟨b, o + j, none⟩) hB).trans (h j hj)
def IntsS (w : World) (A : Option Addr) (xs : List ByteArray) : Prop := 0 < xs.length → ∃ b o, A = some ⟨b, o, none⟩ ∧ b < w.heap.size ∧ RowS w b o xs
theorem IntsS.below {w w' : World} {A : Option Addr} {xs : List ByteArray} (h : IntsS w A xs) (hb : Below w.heap.size w w') : IntsS w' A xs := fun hx => by
  obtain ⟨b, o, e, hlt, hr⟩ := h hx
  exact ⟨b, o, e, Nat.lt_of_lt_of_le hlt hb.size, hr.below hb hlt⟩
theorem RowS.lt {w : World} {b o : Nat} {xs : List ByteArray} (h : RowS w b o xs) (hx : 0 < xs.length) : b < w.heap.size := World.block_lt_of_cell? w ⟨b, o + 0, none⟩ (h 0 hx)
theorem RowS.grown {w w' : World} {b o : Nat} {xs : List ByteArray} {r : Option Nat} (h : RowS w b o xs) (hg : w.grownBy w' r) (hne : some b ≠ r) : RowS w' b o xs :=
  fun j hj => hg.cell (h j hj) hne

def OwnS (w : World) (base : Nat) (v : Value) (xs : List ByteArray) : Prop := w.ownsRow base 9 1 v xs.length (xs.map (Value.string))
theorem OwnS.nil (w : World) (base : Nat) : OwnS w base (.slice none 0 0) [] := World.ownsRow_nil w base 9 1
theorem OwnS.below {w w' : World} {base B : Nat} {v : Value} {xs : List ByteArray} (h : OwnS w base v xs) (hb : Below B w w') (hv : ∀ k, v.ownBlock = some k → k < B) : OwnS w' base v xs := by
  refine ⟨h.1, ?_⟩
  rcases h.2 with h2 | ⟨g, cap, cur, hv', hg, hh, r⟩
  · exact Or.inl h2
  · exact Or.inr ⟨g, cap, cur, hv', hg, (hb.block g (hv g (by rw [hv']; rfl))).trans hh, r⟩
theorem OwnS.alloc {w : World} {base : Nat} {v : Value} {xs : List ByteArray} (h : OwnS w base v xs) (o : Obj) : OwnS (w.alloc o) base v xs := World.ownsRow.alloc h o
theorem OwnS.drewN {w : World} {base : Nat} {v : Value} {xs : List ByteArray} (h : OwnS w base v xs) (m : Nat) : OwnS (w.drewN m) base v xs := h
theorem OwnS.setCell {w : World} {base : Nat} {v : Value} {xs : List ByteArray} (h : OwnS w base v xs) (a : Addr) (ha : v.ownBlock ≠ some a.block) (u : Value) : OwnS (w.setCell a u) base v xs := ownsRow_setCell_other h ha u
theorem OwnS.grown {w w' : World} {base : Nat} {v : Value} {xs : List ByteArray} {r : Option Nat} (h : OwnS w base v xs) (hg : w.grownBy w' r) (hne : v.ownBlock = none ∨ v.ownBlock ≠ r) : OwnS w' base v xs := World.ownsRow.kept h hg hne
theorem OwnS.lt {w : World} {base : Nat} {v : Value} {xs : List ByteArray} (h : OwnS w base v xs) : ∀ k, v.ownBlock = some k → base ≤ k ∧ k < w.heap.size := World.ownsRow.lt h
theorem OwnS.form {w : World} {base : Nat} {v : Value} {xs : List ByteArray} (h : OwnS w base v xs) : ∃ A c, v = .slice A xs.length c ∧ IntsS w A xs ∧ (∀ a, A = some a → base ≤ a.block) := by
  rcases h.2 with ⟨rfl, h0⟩ | ⟨g, cap, cur, rfl, hb, hh, hn, _, hc, ht⟩
  · exact ⟨none, 0, by rw [h0], fun hx => by omega, fun a ha => by cases ha⟩
  · refine ⟨_, cap, rfl, fun hx => ⟨g, 0, rfl, (Array.getElem?_eq_some_iff.1 hh).1, fun j hj => ?_⟩, fun a ha => by cases ha; exact hb⟩
    rw [Nat.zero_add, cell_of_row w g j cur 9 (0, 0) hh]
    have : (cur.toList.take (xs.length * 1))[j]? = some (.string (stn xs j)) := by
      rw [ht, List.getElem?_map, List.getElem?_eq_getElem hj, stn_eq hj]; rfl
    rw [List.getElem?_take, if_pos (by omega)] at this
    simpa using this

theorem info9 : (Try.prog.info? 9).map (fun i => (i.zero, i.size, i.bytes)) = some (some (.string ByteArray.empty), 1, 16) := by kernel_rfl

theorem wpList_pushS {w : World} {ops : Array Oper} {rest : List Oper} {o : Oper} {a : Act} {Q : Exit → Act → World → Prop} (hgd : o.guard = none) (s x : Operand)
    (ho : o.op = .call { callee := .builtin .append, args := #[s, x], argTypes := #[82, 82] }) (base : Nat) (v : Value) (xs : List ByteArray) (hs : a.eval s = v) (hown : OwnS w base v xs)
    (bk c : Nat) (k : ByteArray) (hx : a.eval x = .slice (some ⟨bk, 0, none⟩) 1 c) (hc : w.cell? ⟨bk, 0, none⟩ = some (.string k)) (hlen : xs.length ≤ 1000000000) (hbase : base ≤ w.heap.size)
    (h : ∀ g cap w', OwnS w' base (.slice (some ⟨g, 0, none⟩) (xs.length + 1) cap) (xs ++ [k]) → base ≤ g → w.grownBy w' v.ownBlock → wpList Try.prog ops Q rest (a.put o.dst (.slice (some ⟨g, 0, none⟩) (xs.length + 1) cap)) w') :
    wpList Try.prog ops Q (o :: rest) a w := by
  obtain ⟨i, hi, hz0, hz1, hz2⟩ := info_parts info9
  refine wpList_append_own w hgd s x 82 ho base 9 i (.string ByteArray.empty) 1 16 Try.underlying82 hi hz0 hz1 hz2 rfl (by decide) v xs.length _ hs hown ⟨bk, 0, none⟩ 1 c [.string k] hx rfl ?_ ?_ ?_ ?_ hbase ?_
  · intro j u hj
    cases j with
    | zero => simp at hj; subst hj; simpa [Addr.add] using hc
    | succ j => simp at hj
  · intro u hu; simp at hu; subst hu; rfl
  · simp only [maxLen]; omega
  · omega
  · intro v' w' h1 h2 _
    have h3 : OwnS w' base v' (xs ++ [k]) := by
      unfold OwnS; simp only [List.length_append, List.map_append, List.length_cons, List.length_nil, List.map_cons, List.map_nil]; exact h1
    rcases h3.2 with ⟨_, h0⟩ | ⟨g, cap, _, hv, hb, _⟩
    · simp at h0
    · have e : (xs ++ [k]).length = xs.length + 1 := by simp
      rw [e] at hv
      subst hv
      exact h g cap w' h3 hb h2

section
variable {w w' : World} {base g n cap : Nat} {v : Value} {xs : List ByteArray}

theorem OwnS.len (h : OwnS w base (.slice (some ⟨g, 0, none⟩) n cap) xs) : n = xs.length := by
  rcases h.2 with ⟨h', _⟩ | ⟨_, _, _, h', _⟩
  · cases h'
  · simp at h'; exact h'.2.1
theorem OwnS.cell (h : OwnS w base (.slice (some ⟨g, 0, none⟩) n cap) xs) (j : Nat) (hj : j < xs.length) : w.cell? ⟨g, j, none⟩ = some (.string (stn xs j)) := by
  have e := h.len
  subst e
  have := World.ownsRow.cellAt h j (by omega)
  rw [this, List.getElem?_map, List.getElem?_eq_getElem hj, stn_eq hj]; rfl
theorem OwnS.frz (h : OwnS w base (.slice (some ⟨g, 0, none⟩) n cap) xs) (j : Nat) : w.frozen? ⟨g, j, none⟩ = false := by
  have e := h.len
  subst e
  exact World.ownsRow.frozenAt h j
theorem OwnS.row (h : OwnS w base (.slice (some ⟨g, 0, none⟩) n cap) xs) : RowS w g 0 xs := fun j hj => by rw [Nat.zero_add]; exact h.cell j hj
theorem OwnS.block (h : OwnS w base (.slice (some ⟨g, 0, none⟩) n cap) xs) : base ≤ g ∧ g < w.heap.size := h.lt g rfl
theorem OwnS.cap_ (h : OwnS w base (.slice (some ⟨g, 0, none⟩) n cap) xs) : n ≤ cap := by
  rcases h.2 with ⟨h', _⟩ | ⟨_, _, _, h', _, _, hc, _⟩
  · cases h'
  · simp at h'; obtain ⟨_, rfl, rfl⟩ := h'; exact hc
theorem OwnS.form2 {v : Value} (h : OwnS w base v xs) : ∃ A c, v = .slice A xs.length c ∧ IntsS w A xs ∧ xs.length ≤ c ∧ (∀ a, A = some a → base ≤ a.block ∧ a.block < w.heap.size ∧ a = ⟨a.block, 0, none⟩) := by
  rcases h.2 with ⟨rfl, h0⟩ | ⟨g, cap, cur, rfl, hb, hh, hn, _, hc, ht⟩
  · exact ⟨none, 0, by rw [h0], (fun hx => by omega), by omega, fun a ha => by cases ha⟩
  · have hg : g < w.heap.size := (Array.getElem?_eq_some_iff.1 hh).1
    have h' : OwnS w base (.slice (some ⟨g, 0, none⟩) xs.length cap) xs := ⟨h.1, .inr ⟨g, cap, cur, rfl, hb, hh, hn, by assumption, hc, ht⟩⟩
    exact ⟨_, cap, rfl, fun hx => ⟨g, 0, rfl, hg, h'.row⟩, hn, fun a ha => by cases ha; exact ⟨hb, hg, rfl⟩⟩
theorem OwnS.mono {base' : Nat} {v : Value} (h : OwnS w base v xs) (hb : base' ≤ base) : OwnS w base' v xs := by
  rcases h with ⟨h1, h2 | ⟨g, cap, cur, hv, hg, r⟩⟩
  · exact ⟨h1, .inl h2⟩
  · exact ⟨h1, .inr ⟨g, cap, cur, hv, Nat.le_trans hb hg, r⟩⟩
end

theorem OwnS.some_ {w : World} {base n c : Nat} {A : Option Addr} {xs : List ByteArray} (h : OwnS w base (.slice A n c) xs) (hx : 0 < xs.length) : ∃ g, A = some ⟨g, 0, none⟩ ∧ base ≤ g ∧ g < w.heap.size ∧ n = xs.length ∧ n ≤ c := by
  obtain ⟨A', c', hv, hA, hc, hb⟩ := h.form2
  simp at hv
  obtain ⟨rfl, rfl, rfl⟩ := hv
  obtain ⟨b, o, rfl, _, _⟩ := hA hx
  obtain ⟨h1, h2, h3⟩ := hb _ rfl
  simp at h3
  subst h3
  exact ⟨b, rfl, h1, h2, rfl, hc⟩
theorem IntsS.nil (w : World) (A : Option Addr) : IntsS w A [] := fun h => absurd h (by simp)
theorem IntsS.alloc {w : World} {A : Option Addr} {xs : List ByteArray} (h : IntsS w A xs) (o : Obj) : IntsS (w.alloc o) A xs := h.below ((Below.refl _ _).alloc (Nat.le_refl _) o)
theorem IntsS.drewN {w : World} {A : Option Addr} {xs : List ByteArray} (h : IntsS w A xs) (n : Nat) : IntsS (w.drewN n) A xs := h.below (belowN _ _ n)
theorem IntsS.grown {w w' : World} {A : Option Addr} {xs : List ByteArray} {r : Option Nat} (h : IntsS w A xs) (hg : w.grownBy w' r) (hr : ∀ a, A = some a → some a.block ≠ r) : IntsS w' A xs := fun hx => by
  obtain ⟨b, o, e, hlt, hrow⟩ := h hx
  exact ⟨b, o, e, Nat.lt_of_lt_of_le hlt hg.size, hrow.grown hg (hr _ e)⟩
theorem wpList_pushNS {w : World} {ops : Array Oper} {rest : List Oper} {o : Oper} {a : Act} {Q : Exit → Act → World → Prop} (hgd : o.guard = none) (s x : Operand)
    (ho : o.op = .call { callee := .builtin .append, args := #[s, x], argTypes := #[82, 82] }) (base : Nat) (v : Value) (xs : List ByteArray) (hs : a.eval s = v) (hown : OwnS w base v xs)
    (bk c : Nat) (k : ByteArray) (hx : a.eval x = .slice (some ⟨bk, 0, none⟩) 1 c) (hc : w.cell? ⟨bk, 0, none⟩ = some (.string k)) (hlen : xs.length ≤ 1000000000) (hbase : base ≤ w.heap.size)
    (h : ∀ g n cap w', OwnS w' base (.slice (some ⟨g, 0, none⟩) n cap) (xs ++ [k]) → base ≤ g → w.grownBy w' v.ownBlock → wpList Try.prog ops Q rest (a.put o.dst (.slice (some ⟨g, 0, none⟩) n cap)) w') :
    wpList Try.prog ops Q (o :: rest) a w :=
  wpList_pushS hgd s x ho base v xs hs hown bk c k hx hc hlen hbase fun g cap w' h1 h2 h3 => h g _ cap w' h1 h2 h3
end Go.Proofs.Ytjpppdacamhhfaa
