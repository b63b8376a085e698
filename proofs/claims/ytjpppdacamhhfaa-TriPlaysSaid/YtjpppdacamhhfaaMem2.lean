/- More words for memory: appends of whole slices, stores, makes. Conditions: none. -/
import Derived.Test.YtjpppdacamhhfaaMem
import Derived.Test.YtjpppdacamhhfaaHSpec3
import Derived.Maps.AppendAt
import Derived.OwnWalk
import Derived.Laws.OwnMore
import Derived.RegionTactic
import Derived.Deep.RegionHeld3
import Derived.Deep.AppendLies
namespace Go.Proofs.Ytjpppdacamhhfaa
open Go.RowKit
set_option linter.unusedVariables false

section
variable {w w' : World} {base g n cap : Nat} {xs : List Int}
theorem Own.lit0 (w : World) (base : Nat) (hb : base ≤ w.heap.size) : Own (w.alloc (.cells #[] 3)) base (.slice (some ⟨w.heap.size, 0, none⟩) 0 0) [] :=
  World.ownsRow_lit w #[] 0 hb (by simp [maxLen]) (by simp)
theorem Own.len (h : Own w base (.slice (some ⟨g, 0, none⟩) n cap) xs) : n = xs.length := by
  rcases h.2 with ⟨h', _⟩ | ⟨_, _, _, h', _⟩
  · cases h'
  · simp at h'; exact h'.2.1
theorem Own.cell (h : Own w base (.slice (some ⟨g, 0, none⟩) n cap) xs) (j : Nat) (hj : j < xs.length) : w.cell? ⟨g, j, none⟩ = some (.int .i64 (nth xs j)) := by
  have e := h.len
  subst e
  have := World.ownsRow.cellAt h j (by omega)
  rw [this, List.getElem?_map, List.getElem?_eq_getElem hj, nth_eq hj]; rfl
theorem Own.frz (h : Own w base (.slice (some ⟨g, 0, none⟩) n cap) xs) (j : Nat) : w.frozen? ⟨g, j, none⟩ = false := by
  have e := h.len
  subst e
  exact World.ownsRow.frozenAt h j
theorem Own.put (h : Own w base (.slice (some ⟨g, 0, none⟩) n cap) xs) (j : Nat) (k : Int) : Own (w.setCell ⟨g, j, none⟩ (.int .i64 k)) base (.slice (some ⟨g, 0, none⟩) n cap) (xs.set j k) := by
  have e := h.len
  subst e
  have := (World.ownsRow.stored h j (.int .i64 k)).1
  unfold Own
  rw [List.length_set, List.map_set]; exact this
theorem Own.row (h : Own w base (.slice (some ⟨g, 0, none⟩) n cap) xs) : Row w g 0 xs := fun j hj => by rw [Nat.zero_add]; exact h.cell j hj
theorem Own.block (h : Own w base (.slice (some ⟨g, 0, none⟩) n cap) xs) : base ≤ g ∧ g < w.heap.size := h.lt g rfl
theorem Own.cap_ (h : Own w base (.slice (some ⟨g, 0, none⟩) n cap) xs) : n ≤ cap := by
  rcases h.2 with ⟨h', _⟩ | ⟨_, _, _, h', _, _, hc, _⟩
  · cases h'
  · simp at h'; obtain ⟨_, rfl, rfl⟩ := h'; exact hc
/-- Such a slice written out. -/
theorem Own.form2 {v : Value} (h : Own w base v xs) : ∃ A c, v = .slice A xs.length c ∧ Ints w A xs ∧ xs.length ≤ c ∧ (∀ a, A = some a → base ≤ a.block ∧ a.block < w.heap.size ∧ a = ⟨a.block, 0, none⟩) := by
  rcases h.2 with ⟨rfl, h0⟩ | ⟨g, cap, cur, rfl, hb, hh, hn, _, hc, ht⟩
  · exact ⟨none, 0, by rw [h0], (fun hx => by omega), by omega, fun a ha => by cases ha⟩
  · have hg : g < w.heap.size := (Array.getElem?_eq_some_iff.1 hh).1
    have h' : Own w base (.slice (some ⟨g, 0, none⟩) xs.length cap) xs := ⟨h.1, .inr ⟨g, cap, cur, rfl, hb, hh, hn, by assumption, hc, ht⟩⟩
    exact ⟨_, cap, rfl, fun hx => ⟨g, 0, rfl, hg, h'.row⟩, hn, fun a ha => by cases ha; exact ⟨hb, hg, rfl⟩⟩
theorem Own.mono {base' : Nat} {v : Value} (h : Own w base v xs) (hb : base' ≤ base) : Own w base' v xs := by
  rcases h with ⟨h1, h2 | ⟨g, cap, cur, hv, hg, r⟩⟩
  · exact ⟨h1, .inl h2⟩
  · exact ⟨h1, .inr ⟨g, cap, cur, hv, Nat.le_trans hb hg, r⟩⟩
end

theorem Own.some_ {w : World} {base n c : Nat} {A : Option Addr} {xs : List Int} (h : Own w base (.slice A n c) xs) (hx : 0 < xs.length) : ∃ g, A = some ⟨g, 0, none⟩ ∧ base ≤ g ∧ g < w.heap.size ∧ n = xs.length ∧ n ≤ c := by
  obtain ⟨A', c', hv, hA, hc, hb⟩ := h.form2
  simp at hv
  obtain ⟨rfl, rfl, rfl⟩ := hv
  obtain ⟨b, o, rfl, _, _⟩ := hA hx
  obtain ⟨h1, h2, h3⟩ := hb _ rfl
  simp at h3
  subst h3
  exact ⟨b, rfl, h1, h2, rfl, hc⟩
theorem nth_left {xs ys : List Int} {j : Nat} (h : j < xs.length) : nth (xs ++ ys) j = nth xs j := by
  unfold nth; simp [List.getElem?_append_left h]
theorem nth_right {xs ys : List Int} {j : Nat} (h : xs.length ≤ j) : nth (xs ++ ys) j = nth ys (j - xs.length) := by
  unfold nth; simp [List.getElem?_append_right h]
theorem nth_set {xs : List Int} {i j : Nat} {v : Int} : nth (xs.set i v) j = if i = j ∧ i < xs.length then v else nth xs j := by
  unfold nth
  by_cases h : i = j
  · subst h
    by_cases hl : i < xs.length
    · simp [hl]
    · simp [hl]
  · simp [h]

theorem Ints.nil (w : World) (A : Option Addr) : Ints w A [] := fun h => absurd h (by simp)
theorem Ints.alloc {w : World} {A : Option Addr} {xs : List Int} (h : Ints w A xs) (o : Obj) : Ints (w.alloc o) A xs := h.below ((Below.refl _ _).alloc (Nat.le_refl _) o)
theorem Ints.drewN {w : World} {A : Option Addr} {xs : List Int} (h : Ints w A xs) (n : Nat) : Ints (w.drewN n) A xs := h.below (belowN _ _ n)
theorem Ints.grown {w w' : World} {A : Option Addr} {xs : List Int} {r : Option Nat} (h : Ints w A xs) (hg : w.grownBy w' r) (hr : ∀ a, A = some a → some a.block ≠ r) : Ints w' A xs := fun hx => by
  obtain ⟨b, o, e, hlt, hrow⟩ := h hx
  exact ⟨b, o, e, Nat.lt_of_lt_of_le hlt hg.size, hrow.grown hg (hr _ e)⟩
/-- A row of which the blocks below B hold the numbers is no row of the call's own from B on. -/
theorem Ints.ne_own {w w' : World} {A : Option Addr} {xs : List Int} {r : Option Nat} (h : Ints w A xs) {B : Nat} (hA : ∀ a, A = some a → a.block < B) (hg : w.grownBy w' r) (hr : ∀ k, r = some k → B ≤ k) : Ints w' A xs :=
  h.grown hg fun a ha e => by have := hA a ha; have := hr _ e.symm; omega

theorem run_join {w : World} {base : Nat} {v : Value} {xs : List Int} (hown : Own w base v xs) {A : Option Addr} {ys : List Int} (c : Nat) (hy : Ints w A ys) (hlen : xs.length + ys.length ≤ 1000000000) (hbase : base ≤ w.heap.size) (ty : TypeId) :
    ∃ A' c' w', (Builtin.append_ #[22, 22] ty #[v, .slice A ys.length c]).run Try.prog w = .ok (.slice A' (xs.length + ys.length) c') w' ∧ Own w' base (.slice A' (xs.length + ys.length) c') (xs ++ ys) ∧ w.grownBy w' v.ownBlock ∧
      ((Value.slice A' (xs.length + ys.length) c').ownBlock = v.ownBlock ∨ (Value.slice A' (xs.length + ys.length) c').ownBlock = some w.heap.size) := by
  obtain ⟨i, hi, hz0, hz1, hz2⟩ := info_parts info3
  have hform := hown.form
  rcases A with _ | ad
  · have hm : ys = [] := by
      rcases Nat.eq_zero_or_pos ys.length with h0 | h0
      · exact List.eq_nil_of_length_eq_zero h0
      · obtain ⟨b, o, h, _⟩ := hy h0
        cases h
    subst hm
    obtain ⟨A, c', rfl, hA, _⟩ := hform
    refine ⟨A, c', w, ?_, by simpa using hown, World.grownBy.refl w _, .inl rfl⟩
    rcases hown.2 with ⟨h1, h2⟩ | ⟨g, cap, cur, h1, _, _, hnc, _⟩
    · simp at h1
      obtain ⟨rfl, hx, rfl⟩ := h1
      simp [Builtin.append_, run_underlying Try.underlying22, sizeOf, typeInfo, hi, Builtin.lenOf, Builtin.firstCells, hx]
    · simp at h1
      obtain ⟨rfl, rfl⟩ := h1
      simp [Builtin.append_, run_underlying Try.underlying22, sizeOf, typeInfo, hi, Builtin.lenOf, Builtin.firstCells, hnc, storeCells]
  · have hcells : ∀ j u, (ys.map (Value.int .i64))[j]? = some u → w.cell? (ad.add j) = some u := by
      intro j u hu
      rw [List.getElem?_map] at hu
      rcases Nat.lt_or_ge j ys.length with hj | hj
      · obtain ⟨b, o, e, _, hr⟩ := hy (by omega)
        cases e
        rw [List.getElem?_eq_getElem hj] at hu
        have h1 := hr j hj
        rw [nth_eq hj] at h1
        have h2 : (⟨b, o, none⟩ : Addr).add j = ⟨b, o + j, none⟩ := by
          unfold Addr.add
          cases j with
          | zero => rfl
          | succ j => rfl
        rw [h2, h1]; simpa using hu
      · rw [List.getElem?_eq_none hj] at hu; cases hu
    obtain ⟨v', w', hrun, h2, h3, _, h5⟩ := run_append_own_at (P := Try.prog) w base 22 ty 3 i (.int .i64 0) 1 8 Try.underlying22 hi hz0 hz1 hz2 rfl (by decide) v xs.length _ hown ad ys.length c (ys.map (Value.int .i64)) (by simp) hcells
      (fun u hu => by
        obtain ⟨x, _, rfl⟩ := List.mem_map.1 hu
        rfl) (by simp only [maxLen]; omega) (by omega) hbase
    have h6 : Own w' base v' (xs ++ ys) := by unfold Own; rw [List.length_append, List.map_append]; exact h2
    obtain ⟨A', c', rfl, _⟩ := h6.form
    rw [List.length_append] at hrun h6 h5
    exact ⟨A', c', w', hrun, h6, h3, h5⟩

theorem wpList_join {w : World} {ops : Array Oper} {rest : List Oper} {o : Oper} {a : Act} {Q : Exit → Act → World → Prop} (hgd : o.guard = none) (s x : Operand)
    (ho : o.op = .call { callee := .builtin .append, args := #[s, x], argTypes := #[22, 22] }) (base : Nat) (v : Value) (xs : List Int) (hs : a.eval s = v) (hown : Own w base v xs)
    (A : Option Addr) (c : Nat) (ys : List Int) (hx : a.eval x = .slice A ys.length c) (hy : Ints w A ys) (hlen : xs.length + ys.length ≤ 1000000000) (hbase : base ≤ w.heap.size)
    (h : ∀ A' cap w', Own w' base (.slice A' (xs.length + ys.length) cap) (xs ++ ys) → w.grownBy w' v.ownBlock →
      ((Value.slice A' (xs.length + ys.length) cap).ownBlock = v.ownBlock ∨ (Value.slice A' (xs.length + ys.length) cap).ownBlock = some w.heap.size) → wpList Try.prog ops Q rest (a.put o.dst (.slice A' (xs.length + ys.length) cap)) w') :
    wpList Try.prog ops Q (o :: rest) a w := by
  refine wpList_plain hgd fun K hK => ?_
  obtain ⟨A', c', w', hrun, h2, h3, h4⟩ := run_join hown c hy hlen hbase o.type
  unfold Oper.wp execOp
  simp only [ho, resolve, invoke, builtin, Sem.run_bind, Sem.run_pure, Result.andThen_ok, List.map_toArray, List.map_cons, List.map_nil, hs, hx, hrun]
  exact hK _ _ (h A' c' w' h2 h3 h4)

theorem step_join {w : World} {ops : Array Oper} {o : Oper} {a : Act} {K : Act → World → Prop} {Q : Exit → Act → World → Prop} {E : Prop} (hgd : o.guard = none) (s x : Operand)
    (ho : o.op = .call { callee := .builtin .append, args := #[s, x], argTypes := #[22, 22] }) (base : Nat) (v : Value) (xs : List Int) (hs : a.eval s = v) (hown : Own w base v xs)
    (A : Option Addr) (c : Nat) (ys : List Int) (hx : a.eval x = .slice A ys.length c) (hy : Ints w A ys) (hlen : xs.length + ys.length ≤ 1000000000) (hbase : base ≤ w.heap.size)
    (h : ∀ A' cap w', Own w' base (.slice A' (xs.length + ys.length) cap) (xs ++ ys) → w.grownBy w' v.ownBlock →
      ((Value.slice A' (xs.length + ys.length) cap).ownBlock = v.ownBlock ∨ (Value.slice A' (xs.length + ys.length) cap).ownBlock = some w.heap.size) → K (a.put o.dst (.slice A' (xs.length + ys.length) cap)) w') :
    if Region.wanted o (yielded ops a.tmps) = true then Oper.wp Try.prog o a w K Q else E := by
  have hw : Region.wanted o (yielded ops a.tmps) = true := by simp [Region.wanted, hgd]
  rw [if_pos hw]
  obtain ⟨A', c', w', hrun, h2, h3, h4⟩ := run_join hown c hy hlen hbase o.type
  unfold Oper.wp execOp
  simp only [ho, resolve, invoke, builtin, Sem.run_bind, Sem.run_pure, Result.andThen_ok, List.map_toArray, List.map_cons, List.map_nil, hs, hx, hrun]
  exact h A' c' w' h2 h3 h4

/-- 'make([]int, n)'. -/
theorem wpList_zeros {w : World} {ops : Array Oper} {rest : List Oper} {o : Oper} {a : Act} {Q : Exit → Act → World → Prop} (hgd : o.guard = none) (l c : Operand)
    (ho : o.op = .makeSlice 22 l c) (base n : Nat) (hl : a.eval l = .int .i64 n) (hc : a.eval c = .int .i64 n) (hn : n ≤ 1000000000) (hbase : base ≤ w.heap.size)
    (h : ∀ w', Own w' base (.slice (some ⟨w.heap.size, 0, none⟩) n n) (List.replicate n 0) → w.grownBy w' none → wpList Try.prog ops Q rest (a.put o.dst (.slice (some ⟨w.heap.size, 0, none⟩) n n)) w') :
    wpList Try.prog ops Q (o :: rest) a w := by
  obtain ⟨i, hi, hz0, hz1, hz2⟩ := info_parts info3
  refine wpList_make_full w hgd l c 22 ho base 3 i (.int .i64 0) 1 Try.underlying22 hi hz0 hz1 .i64 .i64 n n n hl hc rfl rfl (by rw [hz2]; omega) (by simp only [maxLen]; omega) hbase ?_
  intro w' h1 h2
  refine h w' ?_ h2
  unfold Own
  rw [List.length_replicate, List.map_replicate]
  have e : (madeCells (Value.int .i64 0).cells (n * 1)).toList = List.replicate n (.int .i64 0) := by
    rw [Nat.mul_one]; exact toList_madeCells_one _ n
  rw [← e]; exact h1

section
variable {w : World} {g : Nat} {t : TypeId} {a b c d : Value}
theorem Blk.f1 (h : Blk w g t #[a]) : w.cell? ⟨g, 0, none⟩ = some a ∧ w.frozen? ⟨g, 0, none⟩ = false ∧ g < w.heap.size := ⟨h.cell 0, h.frozen 0, h.lt⟩
theorem Blk.f2 (h : Blk w g t #[a, b]) : w.cell? ⟨g, 0, none⟩ = some a ∧ w.cell? ⟨g, 1, none⟩ = some b ∧ w.frozen? ⟨g, 0, none⟩ = false ∧ w.frozen? ⟨g, 1, none⟩ = false ∧ g < w.heap.size :=
  ⟨h.cell 0, h.cell 1, h.frozen 0, h.frozen 1, h.lt⟩
theorem Blk.f3 (h : Blk w g t #[a, b, c]) : w.cell? ⟨g, 0, none⟩ = some a ∧ w.cell? ⟨g, 1, none⟩ = some b ∧ w.cell? ⟨g, 2, none⟩ = some c ∧ w.frozen? ⟨g, 0, none⟩ = false ∧ w.frozen? ⟨g, 1, none⟩ = false ∧ w.frozen? ⟨g, 2, none⟩ = false ∧ g < w.heap.size :=
  ⟨h.cell 0, h.cell 1, h.cell 2, h.frozen 0, h.frozen 1, h.frozen 2, h.lt⟩
theorem Blk.f4 (h : Blk w g t #[a, b, c, d]) : w.cell? ⟨g, 0, none⟩ = some a ∧ w.cell? ⟨g, 1, none⟩ = some b ∧ w.cell? ⟨g, 2, none⟩ = some c ∧ w.cell? ⟨g, 3, none⟩ = some d ∧ w.frozen? ⟨g, 0, none⟩ = false ∧ w.frozen? ⟨g, 1, none⟩ = false ∧ w.frozen? ⟨g, 2, none⟩ = false ∧ w.frozen? ⟨g, 3, none⟩ = false ∧ g < w.heap.size :=
  ⟨h.cell 0, h.cell 1, h.cell 2, h.cell 3, h.frozen 0, h.frozen 1, h.frozen 2, h.frozen 3, h.lt⟩
end

end Go.Proofs.Ytjpppdacamhhfaa
