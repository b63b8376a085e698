/- Words for memory that all later texts of this seat share. Conditions: none. -/
import Derived.Test.YtjpppdacamhhfaaKit
import Derived.Test.YtjpppdacamhhfaaHSpec
import Derived.WalkSmall
import Derived.Deep.QuietTactic
import Derived.BigQuiet
import Derived.Maps.OwnOps
namespace Go.Proofs.Ytjpppdacamhhfaa
open Go.RowKit
set_option linter.unusedVariables false

/-- The cells of a block that has just been made; of the blocks below it. -/
theorem cell_new (w : World) (cs : Array Value) (t : TypeId) (fr : Nat × Nat) (j : Nat) : (w.alloc (.cells cs t fr)).cell? ⟨w.heap.size, j, none⟩ = cs[j]? :=
  cell_of_row _ _ _ cs t fr (heap_alloc_new w _)
theorem cell_old (w : World) (o : Obj) (b j : Nat) (h : b < w.heap.size) : (w.alloc o).cell? ⟨b, j, none⟩ = w.cell? ⟨b, j, none⟩ := World.cell?_alloc_lt w o ⟨b, j, none⟩ h
theorem cell_new2 (w : World) (o : Obj) (cs : Array Value) (t : TypeId) (fr : Nat × Nat) (j : Nat) : ((w.alloc o).alloc (.cells cs t fr)).cell? ⟨w.heap.size + 1, j, none⟩ = cs[j]? := by
  have h := cell_new (w.alloc o) cs t fr j
  have e : (w.alloc o).heap.size = w.heap.size + 1 := by simp
  rw [e] at h; exact h

/-- The cells from a place on hold the numbers. -/
def Row (w : World) (b o : Nat) (xs : List Int) : Prop := ∀ j, j < xs.length → w.cell? ⟨b, o + j, none⟩ = some (.int .i64 (nth xs j))
theorem Row.below {w w' : World} {B b o : Nat} {xs : List Int} (h : Row w b o xs) (hb : Below B w w') (hB : b < B) : Row w' b o xs :=
  fun j hj => (hb.cell (p := ⟨b, o + j, none⟩) hB).trans (h j hj)
/-- The address of a slice of numbers: nothing is said of it where there is no number. -/
def Ints (w : World) (A : Option Addr) (xs : List Int) : Prop := 0 < xs.length → ∃ b o, A = some ⟨b, o, none⟩ ∧ b < w.heap.size ∧ Row w b o xs
theorem Ints.below {w w' : World} {A : Option Addr} {xs : List Int} (h : Ints w A xs) (hb : Below w.heap.size w w') : Ints w' A xs := fun hx => by
  obtain ⟨b, o, e, hlt, hr⟩ := h hx
  exact ⟨b, o, e, Nat.lt_of_lt_of_le hlt hb.size, hr.below hb hlt⟩
theorem Ints.keep {w w' : World} {A : Option Addr} {xs : List Int} (h : Ints w A xs) (hz : w.heap.size ≤ w'.heap.size) (hk : ∀ a, A = some a → w'.heap[a.block]? = w.heap[a.block]?) : Ints w' A xs := fun hx => by
  obtain ⟨b, o, e, hlt, hr⟩ := h hx
  refine ⟨b, o, e, Nat.lt_of_lt_of_le hlt hz, fun j hj => ?_⟩
  rw [← hr j hj]
  exact World.cell?_of_block (w := w) (a := ⟨b, o + j, none⟩) (hk ⟨b, o, none⟩ e)
theorem belowN (B : Nat) (w : World) (n : Nat) : Below B w (w.drewN n) := ⟨rfl, rfl, rfl, Nat.le_refl _, fun _ _ => rfl⟩

theorem quiet_add {P : Program} {f : FuncId} {args : Array Value} {w : World} {a n : Nat} {v : Value}
    (h : Calls P f args (w.drewN (a + n)) fun e w' => e = .returned v ∧ ∃ m, w' = (w.drewN (a + n)).drewN m) :
    Calls P f args (w.drewN (a + n)) fun e w'' => e = .returned v ∧ ∃ m, w'' = w.drewN (a + m) :=
  h.mono fun _ _ ⟨he, m, hm⟩ => ⟨he, n + m, by rw [hm, World.drewN_drewN, Nat.add_assoc]⟩
theorem quiet_add_left {P : Program} {f : FuncId} {args : Array Value} {w : World} {a n : Nat} {v : Value}
    (h : Calls P f args (w.drewN (a + n)) fun e w' => e = .returned v ∧ w.drewN (a + n) = w') :
    Calls P f args (w.drewN (a + n)) fun e w'' => e = .returned v ∧ ∃ m, w'' = w.drewN (a + m) :=
  h.mono fun _ _ ⟨he, hm⟩ => ⟨he, n, hm.symm⟩
theorem quiet_left {P : Program} {f : FuncId} {args : Array Value} {w : World} {n : Nat} {v : Value}
    (h : Calls P f args (w.drewN n) fun e w' => e = .returned v ∧ w.drewN n = w') : Calls P f args (w.drewN n) fun e w'' => e = .returned v ∧ ∃ m, w'' = w.drewN m :=
  h.mono fun _ _ ⟨he, hm⟩ => ⟨he, n, hm.symm⟩
/-- A contract that only draws, stated without the world before. -/
theorem quiet_draws {P : Program} {f : FuncId} {args : Array Value} {w : World} {n : Nat} {v : Value}
    (h : Calls P f args (w.drewN n) fun e w' => e = .returned v ∧ ∃ m, w' = (w.drewN n).drewN m) :
    Calls P f args (w.drewN n) fun e w'' => e = .returned v ∧ ∃ m, w'' = w.drewN m :=
  h.mono fun _ _ ⟨he, m, hm⟩ => ⟨he, n + m, by rw [hm, World.drewN_drewN]⟩

theorem grownBy_trans {a b c : World} {r : Option Nat} (h : a.grownBy b r) (k : b.grownBy c r) : a.grownBy c r :=
  ⟨k.os.trans h.os, k.tape.trans h.tape, k.output.trans h.output, Nat.le_trans h.size k.size, fun i hi hr => (k.block i (Nat.lt_of_lt_of_le hi h.size) hr).trans (h.block i hi hr)⟩
theorem grownBy_below {w w' : World} {r : Option Nat} (h : Below w.heap.size w w') : w.grownBy w' r := ⟨h.os, h.tape, h.output, h.size, fun k hk _ => h.block k hk⟩
theorem Row.lt {w : World} {b o : Nat} {xs : List Int} (h : Row w b o xs) (hx : 0 < xs.length) : b < w.heap.size := World.block_lt_of_cell? w ⟨b, o + 0, none⟩ (h 0 hx)
theorem Row.grown {w w' : World} {b o : Nat} {xs : List Int} {r : Option Nat} (h : Row w b o xs) (hg : w.grownBy w' r) (hne : some b ≠ r) : Row w' b o xs :=
  fun j hj => hg.cell (h j hj) hne

/-- A block that is known whole. -/
def Blk (w : World) (g : Nat) (t : TypeId) (cs : Array Value) : Prop := w.heap[g]? = some (.cells cs t (0, 0))

section
variable {w w' : World} {g : Nat} {t : TypeId} {cs : Array Value}
theorem Blk.lt (h : Blk w g t cs) : g < w.heap.size := by
  rcases Nat.lt_or_ge g w.heap.size with hlt | hge
  · exact hlt
  · unfold Blk at h; rw [Array.getElem?_eq_none hge] at h; cases h
theorem Blk.cell (h : Blk w g t cs) (i : Nat) : w.cell? ⟨g, i, none⟩ = cs[i]? := cell_of_row w g i cs t (0, 0) h
theorem Blk.frozen (h : Blk w g t cs) (i : Nat) : w.frozen? ⟨g, i, none⟩ = false := by
  unfold Blk at h
  simp [World.frozen?, h]
theorem Blk.new (w : World) (t : TypeId) (cs : Array Value) : Blk (w.alloc (.cells cs t)) w.heap.size t cs := heap_alloc_new w _
theorem Blk.drew (h : Blk w g t cs) : Blk w.drew g t cs := h
theorem Blk.drewN (h : Blk w g t cs) (n : Nat) : Blk (w.drewN n) g t cs := h
theorem Blk.alloc (h : Blk w g t cs) (o : Obj) : Blk (w.alloc o) g t cs := (Below.heap_alloc w o g h.lt).trans h
theorem Blk.set_ (h : Blk w g t cs) (i : Nat) (u : Value) : Blk (w.setCell ⟨g, i, none⟩ u) g t (cs.setIfInBounds i u) := by
  unfold Blk at h ⊢
  simp [World.setCell, Array.getElem?_modify, h]
theorem Blk.far (h : Blk w g t cs) {p : Addr} (hp : g ≠ p.block) (u : Value) : Blk (w.setCell p u) g t cs := (Below.heap_setCell w p u g hp).trans h
theorem Blk.below {B : Nat} (h : Blk w g t cs) (hb : Below B w w') (hg : g < B) : Blk w' g t cs := (hb.block g hg).trans h
theorem Blk.grown {row : Option Nat} (h : Blk w g t cs) (hb : w.grownBy w' row) (hg : some g ≠ row) : Blk w' g t cs := (hb.block g h.lt hg).trans h
end
theorem grownBy_setCell {a w : World} {r : Option Nat} (h : a.grownBy w r) {p : Addr} (hp : a.heap.size ≤ p.block ∨ r = some p.block) (u : Value) : a.grownBy (w.setCell p u) r :=
  ⟨h.os, h.tape, h.output, by simpa [World.setCell] using h.size, fun k hk hr => (Below.heap_setCell w p u k (fun e => by subst e; rcases hp with hp | hp; exact absurd hk (by omega); exact hr hp.symm)).trans (h.block k hk hr)⟩
theorem grownBy_drewN {a w : World} {r : Option Nat} (h : a.grownBy w r) (n : Nat) : a.grownBy (w.drewN n) r := ⟨h.os, h.tape, h.output, h.size, h.block⟩
theorem grownBy_alloc' {a w : World} {r : Option Nat} (h : a.grownBy w r) (o : Obj) : a.grownBy (w.alloc o) r := grownBy_trans h (World.grownBy_alloc w o r)

/-- A slice of numbers of the call's own. -/
def Own (w : World) (base : Nat) (v : Value) (xs : List Int) : Prop := w.ownsRow base 3 1 v xs.length (xs.map (Value.int .i64))
theorem Own.nil (w : World) (base : Nat) : Own w base (.slice none 0 0) [] := World.ownsRow_nil w base 3 1
theorem Own.below {w w' : World} {base B : Nat} {v : Value} {xs : List Int} (h : Own w base v xs) (hb : Below B w w') (hv : ∀ k, v.ownBlock = some k → k < B) : Own w' base v xs := by
  refine ⟨h.1, ?_⟩
  rcases h.2 with h2 | ⟨g, cap, cur, hv', hg, hh, r⟩
  · exact Or.inl h2
  · exact Or.inr ⟨g, cap, cur, hv', hg, (hb.block g (hv g (by rw [hv']; rfl))).trans hh, r⟩
theorem Own.alloc {w : World} {base : Nat} {v : Value} {xs : List Int} (h : Own w base v xs) (o : Obj) : Own (w.alloc o) base v xs := World.ownsRow.alloc h o
theorem Own.drewN {w : World} {base : Nat} {v : Value} {xs : List Int} (h : Own w base v xs) (m : Nat) : Own (w.drewN m) base v xs := h
theorem Own.setCell {w : World} {base : Nat} {v : Value} {xs : List Int} (h : Own w base v xs) (a : Addr) (ha : v.ownBlock ≠ some a.block) (u : Value) : Own (w.setCell a u) base v xs := ownsRow_setCell_other h ha u
theorem Own.grown {w w' : World} {base : Nat} {v : Value} {xs : List Int} {r : Option Nat} (h : Own w base v xs) (hg : w.grownBy w' r) (hne : v.ownBlock = none ∨ v.ownBlock ≠ r) : Own w' base v xs := World.ownsRow.kept h hg hne
theorem Own.lt {w : World} {base : Nat} {v : Value} {xs : List Int} (h : Own w base v xs) : ∀ k, v.ownBlock = some k → base ≤ k ∧ k < w.heap.size := World.ownsRow.lt h
/-- Such a slice written out. -/
theorem Own.form {w : World} {base : Nat} {v : Value} {xs : List Int} (h : Own w base v xs) : ∃ A c, v = .slice A xs.length c ∧ Ints w A xs ∧ (∀ a, A = some a → base ≤ a.block) := by
  rcases h.2 with ⟨rfl, h0⟩ | ⟨g, cap, cur, rfl, hb, hh, hn, _, hc, ht⟩
  · exact ⟨none, 0, by rw [h0], fun hx => by omega, fun a ha => by cases ha⟩
  · refine ⟨_, cap, rfl, fun hx => ⟨g, 0, rfl, (Array.getElem?_eq_some_iff.1 hh).1, fun j hj => ?_⟩, fun a ha => by cases ha; exact hb⟩
    rw [Nat.zero_add, cell_of_row w g j cur 3 (0, 0) hh]
    have : (cur.toList.take (xs.length * 1))[j]? = some (.int .i64 (nth xs j)) := by
      rw [ht, List.getElem?_map, List.getElem?_eq_getElem hj, nth_eq hj]; rfl
    rw [List.getElem?_take, if_pos (by omega)] at this
    simpa using this

theorem info3 : (Try.prog.info? 3).map (fun i => (i.zero, i.size, i.bytes)) = some (some (.int .i64 0), 1, 8) := by kernel_rfl

theorem wpList_push {w : World} {ops : Array Oper} {rest : List Oper} {o : Oper} {a : Act} {Q : Exit → Act → World → Prop} (hgd : o.guard = none) (s x : Operand)
    (ho : o.op = .call { callee := .builtin .append, args := #[s, x], argTypes := #[22, 22] }) (base : Nat) (v : Value) (xs : List Int) (hs : a.eval s = v) (hown : Own w base v xs)
    (bk c : Nat) (k : Int) (hx : a.eval x = .slice (some ⟨bk, 0, none⟩) 1 c) (hc : w.cell? ⟨bk, 0, none⟩ = some (.int .i64 k)) (hlen : xs.length ≤ 1000000000) (hbase : base ≤ w.heap.size)
    (h : ∀ g cap w', Own w' base (.slice (some ⟨g, 0, none⟩) (xs.length + 1) cap) (xs ++ [k]) → base ≤ g → w.grownBy w' v.ownBlock → wpList Try.prog ops Q rest (a.put o.dst (.slice (some ⟨g, 0, none⟩) (xs.length + 1) cap)) w') :
    wpList Try.prog ops Q (o :: rest) a w := by
  obtain ⟨i, hi, hz0, hz1, hz2⟩ := info_parts info3
  refine wpList_append_own w hgd s x 22 ho base 3 i (.int .i64 0) 1 8 Try.underlying22 hi hz0 hz1 hz2 rfl (by decide) v xs.length _ hs hown ⟨bk, 0, none⟩ 1 c [.int .i64 k] hx rfl ?_ ?_ ?_ ?_ hbase ?_
  · intro j u hj
    cases j with
    | zero => simp at hj; subst hj; simpa [Addr.add] using hc
    | succ j => simp at hj
  · intro u hu; simp at hu; subst hu; rfl
  · simp only [maxLen]; omega
  · omega
  · intro v' w' h1 h2 _
    have h3 : Own w' base v' (xs ++ [k]) := by
      unfold Own; simp only [List.length_append, List.map_append, List.length_cons, List.length_nil, List.map_cons, List.map_nil]; exact h1
    rcases h3.2 with ⟨_, h0⟩ | ⟨g, cap, _, hv, hb, _⟩
    · simp at h0
    · have e : (xs ++ [k]).length = xs.length + 1 := by simp
      rw [e] at hv
      subst hv
      exact h g cap w' h3 hb h2

/-! maps with numbers as keys -/
section
open Go.Maps Go.MapKept Go.ChangeMaps

/-- Block M is a map of at most n entries that answers as f says. -/
def MapI (w : World) (M n : Nat) (f : Int → Option Value) : Prop :=
  ∃ es clock, w.heap[M]? = some (.map es clock) ∧ es.size ≤ n ∧ Stamped es clock ∧
    (∀ x ∈ es.toList, ∃ k : Int, (Lit.int .i64 k).wf = true ∧ x.key = .int .i64 k ∧ f k = some x.val) ∧ ∀ k v, f k = some v → ∃ x ∈ es.toList, x.key = .int .i64 k
/-- f with another answer at k. -/
def put (f : Int → Option Value) (k : Int) (v : Value) : Int → Option Value := fun j => if j = k then some v else f j
theorem put_same (f : Int → Option Value) (k : Int) (v : Value) : put f k v k = some v := by simp [put]
theorem put_other (f : Int → Option Value) {k j : Int} (v : Value) (h : j ≠ k) : put f k v j = f j := by simp [put, h]

theorem wf_i64' {k : Int} (h1 : -9223372036854775808 ≤ k) (h2 : k ≤ 9223372036854775807) : (Lit.int .i64 k).wf = true := WalkArith.wf_i64 ⟨h1, h2⟩

theorem int3 : Keyed Try.prog 3 := int_keyed Try.underlying3

theorem MapI.lt {w : World} {M n : Nat} {f : Int → Option Value} (h : MapI w M n f) : M < w.heap.size := by
  obtain ⟨es, clock, hb, _⟩ := h
  exact (Array.getElem?_eq_some_iff.1 hb).1
theorem MapI.mono {w : World} {M n n' : Nat} {f : Int → Option Value} (h : MapI w M n f) (hn : n ≤ n') : MapI w M n' f := by
  obtain ⟨es, clock, hb, hs, r⟩ := h
  exact ⟨es, clock, hb, Nat.le_trans hs hn, r⟩
theorem MapI.same {w w' : World} {M n : Nat} {f : Int → Option Value} (h : MapI w M n f) (he : w'.heap[M]? = w.heap[M]?) : MapI w' M n f := by
  obtain ⟨es, clock, hb, r⟩ := h
  exact ⟨es, clock, he.trans hb, r⟩
theorem MapI.below {w w' : World} {B M n : Nat} {f : Int → Option Value} (h : MapI w M n f) (hb : Below B w w') (hM : M < B) : MapI w' M n f := h.same (hb.block M hM)
theorem MapI.grown {w w' : World} {M n : Nat} {f : Int → Option Value} {r : Option Nat} (h : MapI w M n f) (hg : w.grownBy w' r) (hne : some M ≠ r) : MapI w' M n f := h.same (hg.block M h.lt hne)
theorem MapI.drewN {w : World} {M n : Nat} {f : Int → Option Value} (h : MapI w M n f) (m : Nat) : MapI (w.drewN m) M n f := h
theorem MapI.drew {w : World} {M n : Nat} {f : Int → Option Value} (h : MapI w M n f) : MapI w.drew M n f := h
theorem MapI.alloc {w : World} {M n : Nat} {f : Int → Option Value} (h : MapI w M n f) (o : Obj) : MapI (w.alloc o) M n f := h.same (Below.heap_alloc w o M h.lt)
theorem MapI.setCell {w : World} {M n : Nat} {f : Int → Option Value} (h : MapI w M n f) (a : Addr) (v : Value) (hne : M ≠ a.block) : MapI (w.setCell a v) M n f := h.same (Below.heap_setCell w a v M hne)
theorem MapI.new (w : World) : MapI (w.alloc (.map #[] 0)) w.heap.size 0 (fun _ => none) :=
  ⟨#[], 0, (MapKept.heap_alloc w _).1, Nat.le_refl _, stamped_empty 0, by simp, by simp⟩

theorem key3 {k : Int} (h : (Lit.int .i64 k).wf = true) : keyOf Try.prog 3 (.int .i64 k) = some (.int .i64 k) := keyOf_int_mk Try.underlying3 h

/-- A look-up: the world does not turn. -/
theorem MapI.look {w : World} {M n : Nat} {f : Int → Option Value} (h : MapI w M n f) {t e : TypeId} (ht : Try.prog.underlying t = some (.map 3 e)) {z : Value} (hz : (zeroValue e).run Try.prog w = .ok z w) (c : Bool) (k : Int)
    (h1 : -9223372036854775808 ≤ k) (h2 : k ≤ 9223372036854775807) :
    (Instr.lookup t (.map (some M)) (.int .i64 k) c).run Try.prog w = .ok (if c then .tuple #[(f k).getD z, .bool (f k).isSome] else (f k).getD z) w := by
  obtain ⟨es, clock, hb, _, hst, hk, hf⟩ := h
  have hkey := key3 (wf_i64' h1 h2)
  have hes : ∀ x ∈ es.toList, ∃ l, keyOf Try.prog 3 x.key = some l := fun x hx => by
    obtain ⟨j, hw, e, _⟩ := hk x hx
    exact ⟨_, by rw [e]; exact key3 hw⟩
  rcases int3.find w hkey es.toList hes with ⟨g1, g2⟩ | ⟨j, e0, g1, g2, g3⟩
  · have hn : f k = none := by
      cases hfk : f k with
      | none => rfl
      | some v => obtain ⟨x, hx, e⟩ := hf k v hfk; exact absurd e (g2 x hx)
    cases c <;> simp [Instr.lookup, run_underlying ht, MapKept.run_getObj_map hb, int3.check w _ hkey, g1, hz, hn, Result.andThen]
  · obtain ⟨k', _, e1, e2⟩ := hk e0 (List.mem_of_getElem? g2)
    have : k' = k := by rw [g3] at e1; simpa using e1.symm
    subst this
    cases c <;> simp [Instr.lookup, run_underlying ht, MapKept.run_getObj_map hb, int3.check w _ hkey, g1, e2, Result.andThen]

/-- A store. -/
theorem MapI.store {w : World} {M n : Nat} {f : Int → Option Value} (h : MapI w M n f) {t e : TypeId} (ht : Try.prog.underlying t = some (.map 3 e)) (k : Int) (v : Value)
    (h1 : -9223372036854775808 ≤ k) (h2 : k ≤ 9223372036854775807) :
    ∃ w', (Instr.mapUpdate t (.map (some M)) (.int .i64 k) v).run Try.prog w = .ok () w' ∧ MapI w' M (n + 1) (put f k v) ∧ w.grownBy w' (some M) := by
  obtain ⟨es, clock, hb, hsz, hst, hk, hf⟩ := h
  have hwk := wf_i64' h1 h2
  have hkey := key3 hwk
  have hes : ∀ x ∈ es.toList, ∃ l, keyOf Try.prog 3 x.key = some l := fun x hx => by
    obtain ⟨j, hw, e, _⟩ := hk x hx
    exact ⟨_, by rw [e]; exact key3 hw⟩
  have hgrow : ∀ o, w.grownBy (setBlock w M o) (some M) := fun o => ⟨rfl, rfl, rfl, by simp [setBlock], fun i _ hi => heap_setBlock_other hb _ (fun e => hi (by rw [e]))⟩
  rcases int3.find w hkey es.toList hes with ⟨g1, g2⟩ | ⟨j, e0, g1, g2, g3⟩
  · refine ⟨setBlock w M (.map (es.push ⟨.int .i64 k, v, clock⟩) (clock + 1)), ?_, ⟨es.push ⟨.int .i64 k, v, clock⟩, clock + 1, heap_setBlock_same hb _, by simp; omega, stamped_push hst g2, ?_, ?_⟩, hgrow _⟩
    · simp [Instr.mapUpdate, run_underlying ht, MapKept.run_getObj_map hb, int3.check w false hkey, g1, MapKept.run_setObj_map _ hb, Result.andThen, setBlock]
    · intro x hx
      simp only [Array.toList_push, List.mem_append, List.mem_singleton] at hx
      rcases hx with hx | rfl
      · obtain ⟨j, hw, e1, e2⟩ := hk x hx
        exact ⟨j, hw, e1, by rw [put_other f v (fun e => g2 x hx (by rw [e1, e]))]; exact e2⟩
      · exact ⟨k, hwk, rfl, put_same f k v⟩
    · intro j u hj
      by_cases e : j = k
      · subst e; exact ⟨⟨.int .i64 j, v, clock⟩, by simp, rfl⟩
      · rw [put_other f v e] at hj
        obtain ⟨x, hx, ex⟩ := hf j u hj
        exact ⟨x, by simp [hx], ex⟩
  · have hj : es[j]? = some e0 := by simpa using g2
    have hjl : j < es.toList.length := (List.getElem?_eq_some_iff.1 g2).1
    have hlist : (es.modify j (fun e' => { e' with key := .int .i64 k, val := v })).toList = es.toList.set j { e0 with key := .int .i64 k, val := v } := by rw [Array.toList_modify, modify_eq_set _ _ _ _ g2]
    have hp : es.toList.Pairwise (fun x y => x.key ≠ y.key) := ((stamped_iff es clock).1 hst).2.2
    refine ⟨setBlock w M (.map (es.modify j (fun e' => { e' with key := .int .i64 k, val := v })) clock), ?_,
      ⟨_, clock, heap_setBlock_same hb _, by simp; omega, stamped_modify hst _ _ (fun _ _ => rfl) (fun e' _ he' => by rw [hj] at he'; cases he'; exact g3.symm), ?_, ?_⟩, hgrow _⟩
    · simp [Instr.mapUpdate, run_underlying ht, MapKept.run_getObj_map hb, int3.check w false hkey, g1, hj, g3, int3.stays w hkey, MapKept.run_setObj_map _ hb, Result.andThen, setBlock]
    · intro x hx
      rw [hlist] at hx
      obtain ⟨i, hi, ex⟩ := List.getElem_of_mem hx
      rw [List.getElem_set] at ex
      have hi' : i < es.toList.length := by simpa using hi
      split at ex
      · subst ex; exact ⟨k, hwk, rfl, put_same f k v⟩
      · rename_i hne
        have hm : es.toList[i] ∈ es.toList := List.getElem_mem hi'
        obtain ⟨k', hw, e1, e2⟩ := hk _ hm
        rw [ex] at e1 e2
        refine ⟨k', hw, e1, ?_⟩
        have hkk : k' ≠ k := by
          intro e
          have hne' : es.toList[i].key ≠ es.toList[j].key := by
            rcases Nat.lt_or_gt_of_ne (fun e : i = j => hne e.symm) with hl | hl
            · exact (List.pairwise_iff_getElem.1 hp) i j hi' hjl hl
            · exact fun e => (List.pairwise_iff_getElem.1 hp) j i hjl hi' hl e.symm
          apply hne'
          have e0' : es.toList[j] = e0 := by
            have := List.getElem?_eq_some_iff.1 g2
            exact this.2
          rw [ex, e0', e1, g3, e]
        rw [put_other f v hkk]; exact e2
    · intro i u hiu
      rw [hlist]
      by_cases e : i = k
      · subst e
        exact ⟨{ e0 with key := .int .i64 i, val := v }, List.mem_iff_getElem.2 ⟨j, by simpa using hjl, by simp⟩, rfl⟩
      · rw [put_other f v e] at hiu
        obtain ⟨x, hx, ex⟩ := hf i u hiu
        obtain ⟨q, hq, eq⟩ := List.getElem_of_mem hx
        refine ⟨x, List.mem_iff_getElem.2 ⟨q, by simpa using hq, ?_⟩, ex⟩
        rw [List.getElem_set, if_neg, eq]
        intro e'
        subst e'
        have e0' : es.toList[j] = e0 := (List.getElem?_eq_some_iff.1 g2).2
        rw [e0'] at eq
        subst eq
        rw [g3] at ex
        exact e (by simpa using ex.symm)

theorem wpList_store {w : World} {ops : Array Oper} {rest : List Oper} {o : Oper} {a : Act} {Q : Exit → Act → World → Prop}
    (hg : o.guard = none) (m x v : Operand) (t e : TypeId) (hop : o.op = Op.mapUpdate t m x v) (ht : Try.prog.underlying t = some (.map 3 e)) {M n : Nat} {f : Int → Option Value}
    (h : MapI w M n f) (hm : a.eval m = .map (some M)) (k : Int) (hx : a.eval x = .int .i64 k) (val : Value) (hv : a.eval v = val)
    (h1 : -9223372036854775808 ≤ k) (h2 : k ≤ 9223372036854775807)
    (hK : ∀ w', MapI w' M (n + 1) (put f k val) → w.grownBy w' (some M) → wpList Try.prog ops Q rest (a.put o.dst undef) w') :
    wpList Try.prog ops Q (o :: rest) a w := by
  refine wpList_plain hg fun K' hK' => ?_
  obtain ⟨w', hrun, r1, r2⟩ := h.store ht k val h1 h2
  unfold Oper.wp
  simp [execOp, hop, hm, hx, hv, hrun, Result.andThen]
  exact hK' _ _ (hK w' r1 r2)
end

end Go.Proofs.Ytjpppdacamhhfaa
