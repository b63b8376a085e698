/- Words for memory: rows of bytes. Conditions: none. -/
import Derived.Test.YtjpppdacamhhfaaMem5
namespace Go.Proofs.Ytjpppdacamhhfaa
open Go.RowKit
set_option linter.unusedVariables false

def RowU (w : World) (b o : Nat) (xs : List Int) : Prop := ∀ j, j < xs.length → w.cell? ⟨b, o + j, none⟩ = some (.int .u8 (nth xs j))
theorem RowU.below {w w' : World} {B b o : Nat} {xs : List Int} (h : RowU w b o xs) (hb : Below B w w') (hB : b < B) : RowU w' b o xs :=
  fun j hj => (hb.cell (p := ⟨b, o + j, none⟩) hB).trans (h j hj)
def IntsU (w : World) (A : Option Addr) (xs : List Int) : Prop := 0 < xs.length → ∃ b o, A = some ⟨b, o, none⟩ ∧ b < w.heap.size ∧ RowU w b o xs
theorem IntsU.below {w w' : World} {A : Option Addr} {xs : List Int} (h : IntsU w A xs) (hb : Below w.heap.size w w') : IntsU w' A xs := fun hx => by
  obtain ⟨b, o, e, hlt, hr⟩ := h hx
  exact ⟨b, o, e, Nat.lt_of_lt_of_le hlt hb.size, hr.below hb hlt⟩
theorem RowU.lt {w : World} {b o : Nat} {xs : List Int} (h : RowU w b o xs) (hx : 0 < xs.length) : b < w.heap.size := World.block_lt_of_cell? w ⟨b, o + 0, none⟩ (h 0 hx)
theorem RowU.grown {w w' : World} {b o : Nat} {xs : List Int} {r : Option Nat} (h : RowU w b o xs) (hg : w.grownBy w' r) (hne : some b ≠ r) : RowU w' b o xs :=
  fun j hj => hg.cell (h j hj) hne

def OwnU (w : World) (base : Nat) (v : Value) (xs : List Int) : Prop := w.ownsRow base 5 1 v xs.length (xs.map (Value.int .u8))
theorem OwnU.nil (w : World) (base : Nat) : OwnU w base (.slice none 0 0) [] := World.ownsRow_nil w base 5 1
theorem OwnU.below {w w' : World} {base B : Nat} {v : Value} {xs : List Int} (h : OwnU w base v xs) (hb : Below B w w') (hv : ∀ k, v.ownBlock = some k → k < B) : OwnU w' base v xs := by
  refine ⟨h.1, ?_⟩
  rcases h.2 with h2 | ⟨g, cap, cur, hv', hg, hh, r⟩
  · exact Or.inl h2
  · exact Or.inr ⟨g, cap, cur, hv', hg, (hb.block g (hv g (by rw [hv']; rfl))).trans hh, r⟩
theorem OwnU.alloc {w : World} {base : Nat} {v : Value} {xs : List Int} (h : OwnU w base v xs) (o : Obj) : OwnU (w.alloc o) base v xs := World.ownsRow.alloc h o
theorem OwnU.drewN {w : World} {base : Nat} {v : Value} {xs : List Int} (h : OwnU w base v xs) (m : Nat) : OwnU (w.drewN m) base v xs := h
theorem OwnU.setCell {w : World} {base : Nat} {v : Value} {xs : List Int} (h : OwnU w base v xs) (a : Addr) (ha : v.ownBlock ≠ some a.block) (u : Value) : OwnU (w.setCell a u) base v xs := ownsRow_setCell_other h ha u
theorem OwnU.grown {w w' : World} {base : Nat} {v : Value} {xs : List Int} {r : Option Nat} (h : OwnU w base v xs) (hg : w.grownBy w' r) (hne : v.ownBlock = none ∨ v.ownBlock ≠ r) : OwnU w' base v xs := World.ownsRow.kept h hg hne
theorem OwnU.lt {w : World} {base : Nat} {v : Value} {xs : List Int} (h : OwnU w base v xs) : ∀ k, v.ownBlock = some k → base ≤ k ∧ k < w.heap.size := World.ownsRow.lt h
theorem OwnU.form {w : World} {base : Nat} {v : Value} {xs : List Int} (h : OwnU w base v xs) : ∃ A c, v = .slice A xs.length c ∧ IntsU w A xs ∧ (∀ a, A = some a → base ≤ a.block) := by
  rcases h.2 with ⟨rfl, h0⟩ | ⟨g, cap, cur, rfl, hb, hh, hn, _, hc, ht⟩
  · exact ⟨none, 0, by rw [h0], fun hx => by omega, fun a ha => by cases ha⟩
  · refine ⟨_, cap, rfl, fun hx => ⟨g, 0, rfl, (Array.getElem?_eq_some_iff.1 hh).1, fun j hj => ?_⟩, fun a ha => by cases ha; exact hb⟩
    rw [Nat.zero_add, cell_of_row w g j cur 5 (0, 0) hh]
    have : (cur.toList.take (xs.length * 1))[j]? = some (.int .u8 (nth xs j)) := by
      rw [ht, List.getElem?_map, List.getElem?_eq_getElem hj, nth_eq hj]; rfl
    rw [List.getElem?_take, if_pos (by omega)] at this
    simpa using this

theorem info5 : (Try.prog.info? 5).map (fun i => (i.zero, i.size, i.bytes)) = some (some (.int .u8 0), 1, 1) := by kernel_rfl

theorem wpList_pushU {w : World} {ops : Array Oper} {rest : List Oper} {o : Oper} {a : Act} {Q : Exit → Act → World → Prop} (hgd : o.guard = none) (s x : Operand)
    (ho : o.op = .call { callee := .builtin .append, args := #[s, x], argTypes := #[70, 70] }) (base : Nat) (v : Value) (xs : List Int) (hs : a.eval s = v) (hown : OwnU w base v xs)
    (bk c : Nat) (k : Int) (hx : a.eval x = .slice (some ⟨bk, 0, none⟩) 1 c) (hc : w.cell? ⟨bk, 0, none⟩ = some (.int .u8 k)) (hlen : xs.length ≤ 1000000000) (hbase : base ≤ w.heap.size)
    (h : ∀ g cap w', OwnU w' base (.slice (some ⟨g, 0, none⟩) (xs.length + 1) cap) (xs ++ [k]) → base ≤ g → w.grownBy w' v.ownBlock → wpList Try.prog ops Q rest (a.put o.dst (.slice (some ⟨g, 0, none⟩) (xs.length + 1) cap)) w') :
    wpList Try.prog ops Q (o :: rest) a w := by
  obtain ⟨i, hi, hz0, hz1, hz2⟩ := info_parts info5
  refine wpList_append_own w hgd s x 70 ho base 5 i (.int .u8 0) 1 1 Try.underlying70 hi hz0 hz1 hz2 rfl (by decide) v xs.length _ hs hown ⟨bk, 0, none⟩ 1 c [.int .u8 k] hx rfl ?_ ?_ ?_ ?_ hbase ?_
  · intro j u hj
    cases j with
    | zero => simp at hj; subst hj; simpa [Addr.add] using hc
    | succ j => simp at hj
  · intro u hu; simp at hu; subst hu; rfl
  · simp only [maxLen]; omega
  · omega
  · intro v' w' h1 h2 _
    have h3 : OwnU w' base v' (xs ++ [k]) := by
      unfold OwnU; simp only [List.length_append, List.map_append, List.length_cons, List.length_nil, List.map_cons, List.map_nil]; exact h1
    rcases h3.2 with ⟨_, h0⟩ | ⟨g, cap, _, hv, hb, _⟩
    · simp at h0
    · have e : (xs ++ [k]).length = xs.length + 1 := by simp
      rw [e] at hv
      subst hv
      exact h g cap w' h3 hb h2

section
variable {w w' : World} {base g n cap : Nat} {v : Value} {xs : List Int}

theorem OwnU.len (h : OwnU w base (.slice (some ⟨g, 0, none⟩) n cap) xs) : n = xs.length := by
  rcases h.2 with ⟨h', _⟩ | ⟨_, _, _, h', _⟩
  · cases h'
  · simp at h'; exact h'.2.1
theorem OwnU.cell (h : OwnU w base (.slice (some ⟨g, 0, none⟩) n cap) xs) (j : Nat) (hj : j < xs.length) : w.cell? ⟨g, j, none⟩ = some (.int .u8 (nth xs j)) := by
  have e := h.len
  subst e
  have := World.ownsRow.cellAt h j (by omega)
  rw [this, List.getElem?_map, List.getElem?_eq_getElem hj, nth_eq hj]; rfl
theorem OwnU.frz (h : OwnU w base (.slice (some ⟨g, 0, none⟩) n cap) xs) (j : Nat) : w.frozen? ⟨g, j, none⟩ = false := by
  have e := h.len
  subst e
  exact World.ownsRow.frozenAt h j
theorem OwnU.row (h : OwnU w base (.slice (some ⟨g, 0, none⟩) n cap) xs) : RowU w g 0 xs := fun j hj => by rw [Nat.zero_add]; exact h.cell j hj
theorem OwnU.block (h : OwnU w base (.slice (some ⟨g, 0, none⟩) n cap) xs) : base ≤ g ∧ g < w.heap.size := h.lt g rfl
theorem OwnU.cap_ (h : OwnU w base (.slice (some ⟨g, 0, none⟩) n cap) xs) : n ≤ cap := by
  rcases h.2 with ⟨h', _⟩ | ⟨_, _, _, h', _, _, hc, _⟩
  · cases h'
  · simp at h'; obtain ⟨_, rfl, rfl⟩ := h'; exact hc
theorem OwnU.form2 {v : Value} (h : OwnU w base v xs) : ∃ A c, v = .slice A xs.length c ∧ IntsU w A xs ∧ xs.length ≤ c ∧ (∀ a, A = some a → base ≤ a.block ∧ a.block < w.heap.size ∧ a = ⟨a.block, 0, none⟩) := by
  rcases h.2 with ⟨rfl, h0⟩ | ⟨g, cap, cur, rfl, hb, hh, hn, _, hc, ht⟩
  · exact ⟨none, 0, by rw [h0], (fun hx => by omega), by omega, fun a ha => by cases ha⟩
  · have hg : g < w.heap.size := (Array.getElem?_eq_some_iff.1 hh).1
    have h' : OwnU w base (.slice (some ⟨g, 0, none⟩) xs.length cap) xs := ⟨h.1, .inr ⟨g, cap, cur, rfl, hb, hh, hn, by assumption, hc, ht⟩⟩
    exact ⟨_, cap, rfl, fun hx => ⟨g, 0, rfl, hg, h'.row⟩, hn, fun a ha => by cases ha; exact ⟨hb, hg, rfl⟩⟩
theorem OwnU.mono {base' : Nat} {v : Value} (h : OwnU w base v xs) (hb : base' ≤ base) : OwnU w base' v xs := by
  rcases h with ⟨h1, h2 | ⟨g, cap, cur, hv, hg, r⟩⟩
  · exact ⟨h1, .inl h2⟩
  · exact ⟨h1, .inr ⟨g, cap, cur, hv, Nat.le_trans hb hg, r⟩⟩
end

theorem OwnU.some_ {w : World} {base n c : Nat} {A : Option Addr} {xs : List Int} (h : OwnU w base (.slice A n c) xs) (hx : 0 < xs.length) : ∃ g, A = some ⟨g, 0, none⟩ ∧ base ≤ g ∧ g < w.heap.size ∧ n = xs.length ∧ n ≤ c := by
  obtain ⟨A', c', hv, hA, hc, hb⟩ := h.form2
  simp at hv
  obtain ⟨rfl, rfl, rfl⟩ := hv
  obtain ⟨b, o, rfl, _, _⟩ := hA hx
  obtain ⟨h1, h2, h3⟩ := hb _ rfl
  simp at h3
  subst h3
  exact ⟨b, rfl, h1, h2, rfl, hc⟩
theorem IntsU.nil (w : World) (A : Option Addr) : IntsU w A [] := fun h => absurd h (by simp)
theorem IntsU.alloc {w : World} {A : Option Addr} {xs : List Int} (h : IntsU w A xs) (o : Obj) : IntsU (w.alloc o) A xs := h.below ((Below.refl _ _).alloc (Nat.le_refl _) o)
theorem IntsU.drewN {w : World} {A : Option Addr} {xs : List Int} (h : IntsU w A xs) (n : Nat) : IntsU (w.drewN n) A xs := h.below (belowN _ _ n)
theorem IntsU.grown {w w' : World} {A : Option Addr} {xs : List Int} {r : Option Nat} (h : IntsU w A xs) (hg : w.grownBy w' r) (hr : ∀ a, A = some a → some a.block ≠ r) : IntsU w' A xs := fun hx => by
  obtain ⟨b, o, e, hlt, hrow⟩ := h hx
  exact ⟨b, o, e, Nat.lt_of_lt_of_le hlt hg.size, hrow.grown hg (hr _ e)⟩
theorem run_joinU {w : World} {base : Nat} {v : Value} {xs : List Int} (hown : OwnU w base v xs) {A : Option Addr} {ys : List Int} (c : Nat) (hy : IntsU w A ys) (hlen : xs.length + ys.length ≤ 1000000000) (hbase : base ≤ w.heap.size) (ty : TypeId) :
    ∃ A' c' w', (Builtin.append_ #[70, 70] ty #[v, .slice A ys.length c]).run Try.prog w = .ok (.slice A' (xs.length + ys.length) c') w' ∧ OwnU w' base (.slice A' (xs.length + ys.length) c') (xs ++ ys) ∧ w.grownBy w' v.ownBlock ∧
      ((Value.slice A' (xs.length + ys.length) c').ownBlock = v.ownBlock ∨ (Value.slice A' (xs.length + ys.length) c').ownBlock = some w.heap.size) := by
  obtain ⟨i, hi, hz0, hz1, hz2⟩ := info_parts info5
  have hform := hown.form
  rcases A with _ | ad
  · have hm : ys = [] := by
      rcases Nat.eq_zero_or_pos ys.length with h0 | h0
      · exact List.eq_nil_of_length_eq_zero h0
      · obtain ⟨b, o, h, _⟩ := hy h0
        cases h
    subst hm
    obtain ⟨A, c', rfl, hA, _⟩ := hform
    refine ⟨A, c', w, ?_, by simpa using hown, World.grownBy.refl w _, .inl rfl⟩
    rcases hown.2 with ⟨h1, h2⟩ | ⟨g, cap, cur, h1, _, _, hnc, _⟩
    · simp at h1
      obtain ⟨rfl, hx, rfl⟩ := h1
      simp [Builtin.append_, run_underlying Try.underlying70, sizeOf, typeInfo, hi, Builtin.lenOf, Builtin.firstCells, hx]
    · simp at h1
      obtain ⟨rfl, rfl⟩ := h1
      simp [Builtin.append_, run_underlying Try.underlying70, sizeOf, typeInfo, hi, Builtin.lenOf, Builtin.firstCells, hnc, storeCells]
  · have hcells : ∀ j u, (ys.map (Value.int .u8))[j]? = some u → w.cell? (ad.add j) = some u := by
      intro j u hu
      rw [List.getElem?_map] at hu
      rcases Nat.lt_or_ge j ys.length with hj | hj
      · obtain ⟨b, o, e, _, hr⟩ := hy (by omega)
        cases e
        rw [List.getElem?_eq_getElem hj] at hu
        have h1 := hr j hj
        rw [nth_eq hj] at h1
        have h2 : (⟨b, o, none⟩ : Addr).add j = ⟨b, o + j, none⟩ := by
          unfold Addr.add
          cases j with
          | zero => rfl
          | succ j => rfl
        rw [h2, h1]; simpa using hu
      · rw [List.getElem?_eq_none hj] at hu; cases hu
    obtain ⟨v', w', hrun, h2, h3, _, h5⟩ := run_append_own_at (P := Try.prog) w base 70 ty 5 i (.int .u8 0) 1 1 Try.underlying70 hi hz0 hz1 hz2 rfl (by decide) v xs.length _ hown ad ys.length c (ys.map (Value.int .u8)) (by simp) hcells
      (fun u hu => by
        obtain ⟨x, _, rfl⟩ := List.mem_map.1 hu
        rfl) (by simp only [maxLen]; omega) (by omega) hbase
    have h6 : OwnU w' base v' (xs ++ ys) := by unfold OwnU; rw [List.length_append, List.map_append]; exact h2
    obtain ⟨A', c', rfl, _⟩ := h6.form
    rw [List.length_append] at hrun h6 h5
    exact ⟨A', c', w', hrun, h6, h3, h5⟩

theorem wpList_joinU {w : World} {ops : Array Oper} {rest : List Oper} {o : Oper} {a : Act} {Q : Exit → Act → World → Prop} (hgd : o.guard = none) (s x : Operand)
    (ho : o.op = .call { callee := .builtin .append, args := #[s, x], argTypes := #[70, 70] }) (base : Nat) (v : Value) (xs : List Int) (hs : a.eval s = v) (hown : OwnU w base v xs)
    (A : Option Addr) (c : Nat) (ys : List Int) (hx : a.eval x = .slice A ys.length c) (hy : IntsU w A ys) (hlen : xs.length + ys.length ≤ 1000000000) (hbase : base ≤ w.heap.size)
    (h : ∀ A' cap w', OwnU w' base (.slice A' (xs.length + ys.length) cap) (xs ++ ys) → w.grownBy w' v.ownBlock →
      ((Value.slice A' (xs.length + ys.length) cap).ownBlock = v.ownBlock ∨ (Value.slice A' (xs.length + ys.length) cap).ownBlock = some w.heap.size) → wpList Try.prog ops Q rest (a.put o.dst (.slice A' (xs.length + ys.length) cap)) w') :
    wpList Try.prog ops Q (o :: rest) a w := by
  refine wpList_plain hgd fun K hK => ?_
  obtain ⟨A', c', w', hrun, h2, h3, h4⟩ := run_joinU hown c hy hlen hbase o.type
  unfold Oper.wp execOp
  simp only [ho, resolve, invoke, builtin, Sem.run_bind, Sem.run_pure, Result.andThen_ok, List.map_toArray, List.map_cons, List.map_nil, hs, hx, hrun]
  exact hK _ _ (h A' c' w' h2 h3 h4)

theorem step_joinU {w : World} {ops : Array Oper} {o : Oper} {a : Act} {K : Act → World → Prop} {Q : Exit → Act → World → Prop} {E : Prop} (hgd : o.guard = none) (s x : Operand)
    (ho : o.op = .call { callee := .builtin .append, args := #[s, x], argTypes := #[70, 70] }) (base : Nat) (v : Value) (xs : List Int) (hs : a.eval s = v) (hown : OwnU w base v xs)
    (A : Option Addr) (c : Nat) (ys : List Int) (hx : a.eval x = .slice A ys.length c) (hy : IntsU w A ys) (hlen : xs.length + ys.length ≤ 1000000000) (hbase : base ≤ w.heap.size)
    (h : ∀ A' cap w', OwnU w' base (.slice A' (xs.length + ys.length) cap) (xs ++ ys) → w.grownBy w' v.ownBlock →
      ((Value.slice A' (xs.length + ys.length) cap).ownBlock = v.ownBlock ∨ (Value.slice A' (xs.length + ys.length) cap).ownBlock = some w.heap.size) → K (a.put o.dst (.slice A' (xs.length + ys.length) cap)) w') :
    if Region.wanted o (yielded ops a.tmps) = true then Oper.wp Try.prog o a w K Q else E := by
  have hw : Region.wanted o (yielded ops a.tmps) = true := by simp [Region.wanted, hgd]
  rw [if_pos hw]
  obtain ⟨A', c', w', hrun, h2, h3, h4⟩ := run_joinU hown c hy hlen hbase o.type
  unfold Oper.wp execOp
  simp only [ho, resolve, invoke, builtin, Sem.run_bind, Sem.run_pure, Result.andThen_ok, List.map_toArray, List.map_cons, List.map_nil, hs, hx, hrun]
  exact h A' c' w' h2 h3 h4

theorem ints_newU (w : World) (xs : List Int) : IntsU (w.alloc (.cells (xs.map (Value.int .u8)).toArray 5)) (some ⟨w.heap.size, 0, none⟩) xs := fun h => by
  refine ⟨w.heap.size, 0, rfl, by simp, fun j hj => ?_⟩
  rw [Nat.zero_add, cell_new]
  simp [hj, nth_eq hj]

theorem wpList_pushNU {w : World} {ops : Array Oper} {rest : List Oper} {o : Oper} {a : Act} {Q : Exit → Act → World → Prop} (hgd : o.guard = none) (s x : Operand)
    (ho : o.op = .call { callee := .builtin .append, args := #[s, x], argTypes := #[70, 70] }) (base : Nat) (v : Value) (xs : List Int) (hs : a.eval s = v) (hown : OwnU w base v xs)
    (bk c : Nat) (k : Int) (hx : a.eval x = .slice (some ⟨bk, 0, none⟩) 1 c) (hc : w.cell? ⟨bk, 0, none⟩ = some (.int .u8 k)) (hlen : xs.length ≤ 1000000000) (hbase : base ≤ w.heap.size)
    (h : ∀ g n cap w', OwnU w' base (.slice (some ⟨g, 0, none⟩) n cap) (xs ++ [k]) → base ≤ g → w.grownBy w' v.ownBlock → wpList Try.prog ops Q rest (a.put o.dst (.slice (some ⟨g, 0, none⟩) n cap)) w') :
    wpList Try.prog ops Q (o :: rest) a w :=
  wpList_pushU hgd s x ho base v xs hs hown bk c k hx hc hlen hbase fun g cap w' h1 h2 h3 => h g _ cap w' h1 h2 h3

theorem wpList_joinNU {w : World} {ops : Array Oper} {rest : List Oper} {o : Oper} {a : Act} {Q : Exit → Act → World → Prop} (hgd : o.guard = none) (s x : Operand)
    (ho : o.op = .call { callee := .builtin .append, args := #[s, x], argTypes := #[70, 70] }) (base : Nat) (v : Value) (xs : List Int) (hs : a.eval s = v) (hown : OwnU w base v xs)
    (A : Option Addr) (c : Nat) (ys : List Int) (hx : a.eval x = .slice A ys.length c) (hy : IntsU w A ys) (hlen : xs.length + ys.length ≤ 1000000000) (hbase : base ≤ w.heap.size)
    (h : ∀ A' n cap w', OwnU w' base (.slice A' n cap) (xs ++ ys) → w.grownBy w' v.ownBlock → wpList Try.prog ops Q rest (a.put o.dst (.slice A' n cap)) w') :
    wpList Try.prog ops Q (o :: rest) a w :=
  wpList_joinU hgd s x ho base v xs hs hown A c ys hx hy hlen hbase fun A' cap w' h1 h2 _ => h A' _ cap w' h1 h2

theorem step_joinNU {w : World} {ops : Array Oper} {o : Oper} {a : Act} {K : Act → World → Prop} {Q : Exit → Act → World → Prop} {E : Prop} (hgd : o.guard = none) (s x : Operand)
    (ho : o.op = .call { callee := .builtin .append, args := #[s, x], argTypes := #[70, 70] }) (base : Nat) (v : Value) (xs : List Int) (hs : a.eval s = v) (hown : OwnU w base v xs)
    (A : Option Addr) (c : Nat) (ys : List Int) (hx : a.eval x = .slice A ys.length c) (hy : IntsU w A ys) (hlen : xs.length + ys.length ≤ 1000000000) (hbase : base ≤ w.heap.size)
    (h : ∀ A' n cap w', OwnU w' base (.slice A' n cap) (xs ++ ys) → w.grownBy w' v.ownBlock → K (a.put o.dst (.slice A' n cap)) w') :
    if Region.wanted o (yielded ops a.tmps) = true then Oper.wp Try.prog o a w K Q else E :=
  step_joinU hgd s x ho base v xs hs hown A c ys hx hy hlen hbase fun A' cap w' h1 h2 _ => h A' _ cap w' h1 h2

theorem wpList_joinMU {w : World} {ops : Array Oper} {rest : List Oper} {o : Oper} {a : Act} {Q : Exit → Act → World → Prop} (hgd : o.guard = none) (s x : Operand)
    (ho : o.op = .call { callee := .builtin .append, args := #[s, x], argTypes := #[70, 70] }) (base : Nat) (v : Value) (xs : List Int) (hs : a.eval s = v) (hown : OwnU w base v xs)
    (A : Option Addr) (c : Nat) (ys : List Int) (hx : a.eval x = .slice A ys.length c) (hy : IntsU w A ys) (hlen : xs.length + ys.length ≤ 1000000000) (hbase : base ≤ w.heap.size)
    (h : ∀ A' n cap w', OwnU w' base (.slice A' n cap) (xs ++ ys) → w.grownBy w' v.ownBlock → (∀ k, (Value.slice A' n cap).ownBlock = some k → v.ownBlock = some k ∨ k = w.heap.size) → wpList Try.prog ops Q rest (a.put o.dst (.slice A' n cap)) w') :
    wpList Try.prog ops Q (o :: rest) a w :=
  wpList_joinU hgd s x ho base v xs hs hown A c ys hx hy hlen hbase fun A' cap w' h1 h2 h3 => h A' _ cap w' h1 h2 fun k hk => by
    rcases h3 with h3 | h3
    · exact .inl (h3 ▸ hk)
    · rw [h3] at hk; cases hk; exact .inr rfl
theorem step_joinMU {w : World} {ops : Array Oper} {o : Oper} {a : Act} {K : Act → World → Prop} {Q : Exit → Act → World → Prop} {E : Prop} (hgd : o.guard = none) (s x : Operand)
    (ho : o.op = .call { callee := .builtin .append, args := #[s, x], argTypes := #[70, 70] }) (base : Nat) (v : Value) (xs : List Int) (hs : a.eval s = v) (hown : OwnU w base v xs)
    (A : Option Addr) (c : Nat) (ys : List Int) (hx : a.eval x = .slice A ys.length c) (hy : IntsU w A ys) (hlen : xs.length + ys.length ≤ 1000000000) (hbase : base ≤ w.heap.size)
    (h : ∀ A' n cap w', OwnU w' base (.slice A' n cap) (xs ++ ys) → w.grownBy w' v.ownBlock → (∀ k, (Value.slice A' n cap).ownBlock = some k → v.ownBlock = some k ∨ k = w.heap.size) → K (a.put o.dst (.slice A' n cap)) w') :
    if Region.wanted o (yielded ops a.tmps) = true then Oper.wp Try.prog o a w K Q else E :=
  step_joinU hgd s x ho base v xs hs hown A c ys hx hy hlen hbase fun A' cap w' h1 h2 h3 => h A' _ cap w' h1 h2 fun k hk => by
    rcases h3 with h3 | h3
    · exact .inl (h3 ▸ hk)
    · rw [h3] at hk; cases hk; exact .inr rfl

theorem OwnU.form3 {w : World} {base : Nat} {v : Value} {xs : List Int} (h : OwnU w base v xs) : ∃ A n c, v = .slice A n c ∧ n = xs.length ∧ n ≤ c ∧ IntsU w A xs := by
  obtain ⟨A, c, hv, hA, hc, _⟩ := h.form2
  exact ⟨A, xs.length, c, hv, rfl, hc, hA⟩
end Go.Proofs.Ytjpppdacamhhfaa
