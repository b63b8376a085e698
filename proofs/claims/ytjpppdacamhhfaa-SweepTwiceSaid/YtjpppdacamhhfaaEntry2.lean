/- Two maps, a key laid into each, in whatever order the steps come. Conditions: the keys are not there. -/
import Derived.Test.YtjpppdacamhhfaaQueue
import Derived.WideKeyEntry
namespace Go.Proofs.Ytjpppdacamhhfaa
open Go.RowKit Go.Maps Go.MapKept Go.ChangeMaps
set_option linter.unusedVariables false

theorem map_absent {w : World} {M n : Nat} {f : Int → Option Value} (h : MapI w M n f) {k : Int} (hk : f k = none) (hw : (Lit.int .i64 k).wf = true) :
    ∃ es clock, w.heap[M]? = some (.map es clock) ∧ es.size ≤ n ∧
      (∀ u : World, u.heap[M]? = some (.map es clock) → (Instr.mapEntry 110 (.map (some M)) (.int .i64 k)).run Try.prog u = .ok (.tuple #[.int .i64 0, .int .i64 (clock : Int)]) (setBlock u M (.map (es.push ⟨.int .i64 k, .int .i64 0, clock⟩) (clock + 1)))) ∧
      (∀ (u : World) (v : Value), u.heap[M]? = some (.map (es.push ⟨.int .i64 k, .int .i64 0, clock⟩) (clock + 1)) → (Instr.entryStore 110 (.map (some M)) (.int .i64 (clock : Int)) v).run Try.prog u = .ok () (setBlock u M (.map (es.push ⟨.int .i64 k, v, clock⟩) (clock + 1)))) ∧
      (∀ (u : World) (v : Value), u.heap[M]? = some (.map (es.push ⟨.int .i64 k, v, clock⟩) (clock + 1)) → MapI u M (n + 1) (put f k v)) := by
  have hall := h
  obtain ⟨es, clock, hb, hsz, hst, hkk, hf⟩ := h
  have hkey := key3 hw
  have hes : ∀ x ∈ es.toList, ∃ l, keyOf Try.prog 3 x.key = some l := fun x hx => by
    obtain ⟨j, hw, e, _⟩ := hkk x hx
    exact ⟨_, by rw [e]; exact key3 hw⟩
  have habs : ∀ x ∈ es.toList, x.key ≠ .int .i64 k := fun x hx e => by
    obtain ⟨j, _, e1, e2⟩ := hkk x hx
    rw [e] at e1
    cases e1
    rw [hk] at e2; cases e2
  have hst2 := (stamped_iff es clock).1 hst
  refine ⟨es, clock, hb, hsz, fun u hu => ?_, fun u v hu => ?_, fun u v hu => ?_⟩
  · rcases int3.find u hkey es.toList hes with ⟨g1, _⟩ | ⟨j, e0, _, g2, g3⟩
    · simp [Instr.mapEntry, run_underlying Try.underlying110, MapKept.run_getObj_map hu, int3.check u false hkey, g1, MapKept.run_setObj_map _ hu, Result.andThen, setBlock, goInt]
    · exact absurd g3 (habs e0 (List.mem_of_getElem? g2))
  · have hidx : (es.push ⟨.int .i64 k, .int .i64 0, clock⟩).findIdx? (fun e => ((e.born : Nat) : Int) == ((clock : Nat) : Int)) = some es.size := by
      rw [WideElems.findIdx_arr]
      exact WideElems.findIdx_born (l := (es.push ⟨.int .i64 k, .int .i64 0, clock⟩).toList) (j := es.size) (e0 := ⟨.int .i64 k, .int .i64 0, clock⟩) (by
        simp only [Array.toList_push, List.map_append, List.map_cons, List.map_nil]
        refine List.nodup_append.2 ⟨hst2.2.1, by simp, fun a ha c hc e1 => ?_⟩
        simp only [List.mem_singleton] at hc
        obtain ⟨x, hx, rfl⟩ := List.mem_map.1 ha
        have := hst2.1 x hx
        omega) (by simp)
    have hmod : (es.push ⟨.int .i64 k, .int .i64 0, clock⟩).modify es.size (fun e => { e with val := v }) = es.push ⟨.int .i64 k, v, clock⟩ := by
      apply Array.ext'
      rw [Array.toList_modify, Array.toList_push, Array.toList_push, ← Array.length_toList, WideElems.modify_last]
    simp [Instr.entryStore, MapKept.run_getObj_map hu, asInt, asIntOf, hidx, hmod, MapKept.run_setObj_map _ hu, Result.andThen, setBlock]
  · refine ⟨es.push ⟨.int .i64 k, v, clock⟩, clock + 1, hu, by simp; omega, stamped_push hst habs, ?_, ?_⟩
    · intro x hx
      simp only [Array.toList_push, List.mem_append, List.mem_singleton] at hx
      rcases hx with hx | rfl
      · obtain ⟨j, hw, e1, e2⟩ := hkk x hx
        exact ⟨j, hw, e1, by rw [put_other f v (fun e => habs x hx (by rw [e1, e]))]; exact e2⟩
      · exact ⟨k, hw, rfl, put_same f k v⟩
    · intro j u hj
      by_cases e : j = k
      · subst e; exact ⟨⟨.int .i64 j, v, clock⟩, by simp, rfl⟩
      · rw [put_other f v e] at hj
        obtain ⟨x, hx, ex⟩ := hf j u hj
        exact ⟨x, by simp [hx], ex⟩

theorem set_comm {w : World} {A B : Nat} (h : A ≠ B) (x y : Obj) : setBlock (setBlock w A x) B y = setBlock (setBlock w B y) A x := by
  unfold setBlock
  simp only
  congr 1
  exact Array.setIfInBounds_comm x y h
theorem set_twice (w : World) (A : Nat) (x y : Obj) : setBlock (setBlock w A x) A y = setBlock w A y := by
  unfold setBlock
  simp only
  congr 1
  exact Array.setIfInBounds_setIfInBounds ..
theorem set_at {w : World} {A : Nat} (h : A < w.heap.size) (x : Obj) : (setBlock w A x).heap[A]? = some x := by unfold setBlock; simp [h]
theorem set_off {w : World} {A B : Nat} (h : A ≠ B) (x : Obj) : (setBlock w A x).heap[B]? = w.heap[B]? := by unfold setBlock; simp [h]
theorem set_size (w : World) (A : Nat) (x : Obj) : (setBlock w A x).heap.size = w.heap.size := by unfold setBlock; simp
theorem set_turned {w w' : World} {S : Nat → Prop} (h : Turned w w' S) {A : Nat} (hA : S A) (x : Obj) : Turned w (setBlock w' A x) S :=
  ⟨h.os, h.tape, h.output, by rw [set_size]; exact h.size, fun k hk hS => by rw [set_off (fun e => hS (by rw [← e]; exact hA)) x]; exact h.block k hk hS⟩

/-- The steps of two entries, in whatever order. -/
structure Steps (A B : Nat) (x y vx vy s t : Int) (w w10 w20 w01 w02 w11 w12 w21 w22 : World) : Prop where
  a00 : (Instr.mapEntry 110 (.map (some A)) (.int .i64 x)).run Try.prog w = .ok (.tuple #[.int .i64 0, .int .i64 s]) w10
  a01 : (Instr.mapEntry 110 (.map (some A)) (.int .i64 x)).run Try.prog w01 = .ok (.tuple #[.int .i64 0, .int .i64 s]) w11
  a02 : (Instr.mapEntry 110 (.map (some A)) (.int .i64 x)).run Try.prog w02 = .ok (.tuple #[.int .i64 0, .int .i64 s]) w12
  a10 : (Instr.entryStore 110 (.map (some A)) (.int .i64 s) (.int .i64 vx)).run Try.prog w10 = .ok () w20
  a11 : (Instr.entryStore 110 (.map (some A)) (.int .i64 s) (.int .i64 vx)).run Try.prog w11 = .ok () w21
  a12 : (Instr.entryStore 110 (.map (some A)) (.int .i64 s) (.int .i64 vx)).run Try.prog w12 = .ok () w22
  b00 : (Instr.mapEntry 110 (.map (some B)) (.int .i64 y)).run Try.prog w = .ok (.tuple #[.int .i64 0, .int .i64 t]) w01
  b10 : (Instr.mapEntry 110 (.map (some B)) (.int .i64 y)).run Try.prog w10 = .ok (.tuple #[.int .i64 0, .int .i64 t]) w11
  b20 : (Instr.mapEntry 110 (.map (some B)) (.int .i64 y)).run Try.prog w20 = .ok (.tuple #[.int .i64 0, .int .i64 t]) w21
  b01 : (Instr.entryStore 110 (.map (some B)) (.int .i64 t) (.int .i64 vy)).run Try.prog w01 = .ok () w02
  b11 : (Instr.entryStore 110 (.map (some B)) (.int .i64 t) (.int .i64 vy)).run Try.prog w11 = .ok () w12
  b21 : (Instr.entryStore 110 (.map (some B)) (.int .i64 t) (.int .i64 vy)).run Try.prog w21 = .ok () w22
  t10 : Turned w w10 (fun k => k = A ∨ k = B)
  t20 : Turned w w20 (fun k => k = A ∨ k = B)
  t01 : Turned w w01 (fun k => k = A ∨ k = B)
  t02 : Turned w w02 (fun k => k = A ∨ k = B)
  t11 : Turned w w11 (fun k => k = A ∨ k = B)
  t12 : Turned w w12 (fun k => k = A ∨ k = B)
  t21 : Turned w w21 (fun k => k = A ∨ k = B)
  t22 : Turned w w22 (fun k => k = A ∨ k = B)
theorem two_entries {w : World} {A B n m : Nat} {f g : Int → Option Value} (hA : MapI w A n f) (hB : MapI w B m g) (hne : A ≠ B) {x y : Int} (hx : f x = none) (hy : g y = none) (wx : (Lit.int .i64 x).wf = true) (wy : (Lit.int .i64 y).wf = true) (vx vy : Int) :
    ∃ s t w10 w20 w01 w02 w11 w12 w21 w22, Steps A B x y vx vy s t w w10 w20 w01 w02 w11 w12 w21 w22 ∧ MapI w22 A (n + 1) (put f x (.int .i64 vx)) ∧ MapI w22 B (m + 1) (put g y (.int .i64 vy)) := by
  have lA := hA.lt
  have lB := hB.lt
  obtain ⟨ea, ca, ha, -, ea1, ea2, ea3⟩ := map_absent hA hx wx
  obtain ⟨eb, cb, hb, -, eb1, eb2, eb3⟩ := map_absent hB hy wy
  have r := Turned.refl w (fun k => k = A ∨ k = B)
  generalize hoA1 : Obj.map (ea.push ⟨.int .i64 x, .int .i64 0, ca⟩) (ca + 1) = A1 at *
  generalize hoA2 : Obj.map (ea.push ⟨.int .i64 x, .int .i64 vx, ca⟩) (ca + 1) = A2 at *
  generalize hoB1 : Obj.map (eb.push ⟨.int .i64 y, .int .i64 0, cb⟩) (cb + 1) = B1 at *
  generalize hoB2 : Obj.map (eb.push ⟨.int .i64 y, .int .i64 vy, cb⟩) (cb + 1) = B2 at *
  have fa2 : ∀ u : World, u.heap[A]? = some A1 → (Instr.entryStore 110 (.map (some A)) (.int .i64 (ca : Int)) (.int .i64 vx)).run Try.prog u = .ok () (setBlock u A A2) := fun u hu => by rw [← hoA2]; exact ea2 u _ hu
  have fb2 : ∀ u : World, u.heap[B]? = some B1 → (Instr.entryStore 110 (.map (some B)) (.int .i64 (cb : Int)) (.int .i64 vy)).run Try.prog u = .ok () (setBlock u B B2) := fun u hu => by rw [← hoB2]; exact eb2 u _ hu
  have hne' : B ≠ A := fun e => hne e.symm
  refine ⟨ca, cb, setBlock w A A1, setBlock w A A2, setBlock w B B1, setBlock w B B2, setBlock (setBlock w A A1) B B1, setBlock (setBlock w A A1) B B2, setBlock (setBlock w A A2) B B1, setBlock (setBlock w A A2) B B2, ⟨ea1 w ha, ?_, ?_, ?_, ?_, ?_, eb1 w hb, ?_, ?_, ?_, ?_, ?_, ?_, ?_, ?_, ?_, ?_, ?_, ?_, ?_⟩, ?_, ?_⟩
  · rw [set_comm hne]; exact ea1 _ (by rw [set_off hne']; exact ha)
  · rw [set_comm hne]; exact ea1 _ (by rw [set_off hne']; exact ha)
  · rw [fa2 _ (set_at lA _), set_twice]
  · rw [fa2 _ (by rw [set_off hne']; exact set_at lA _), set_comm hne' , set_twice]
  · rw [fa2 _ (by rw [set_off hne']; exact set_at lA _), set_comm hne' , set_twice]
  · exact eb1 _ (by rw [set_off hne]; exact hb)
  · exact eb1 _ (by rw [set_off hne]; exact hb)
  · rw [fb2 _ (set_at lB _), set_twice]
  · rw [fb2 _ (set_at (by rw [set_size]; exact lB) _), set_twice]
  · rw [fb2 _ (set_at (by rw [set_size]; exact lB) _), set_twice]
  · exact set_turned r (.inl rfl) _
  · exact set_turned r (.inl rfl) _
  · exact set_turned r (.inr rfl) _
  · exact set_turned r (.inr rfl) _
  · exact set_turned (set_turned r (.inl rfl) _) (.inr rfl) _
  · exact set_turned (set_turned r (.inl rfl) _) (.inr rfl) _
  · exact set_turned (set_turned r (.inl rfl) _) (.inr rfl) _
  · exact set_turned (set_turned r (.inl rfl) _) (.inr rfl) _
  · exact ea3 _ _ (by rw [hoA2, set_off hne']; exact set_at lA _)
  · exact eb3 _ _ (by rw [hoB2]; exact set_at (by rw [set_size]; exact lB) _)
end Go.Proofs.Ytjpppdacamhhfaa
