/- A row of pairs that is taken from at its head and appended to: memory. Conditions: none. -/
import Derived.Test.YtjpppdacamhhfaaAlSpec
import Derived.Test.YtjpppdacamhhfaaMover
import Derived.Deep.Upon
namespace Go.Proofs.Ytjpppdacamhhfaa
open Go.RowKit
set_option linter.unusedVariables false

def cellsP (ps : List (Nat × Nat)) : List Value := ps.flatMap fun p => [.int .i64 (p.1 : Int), .int .i64 (p.2 : Int)]
theorem cellsP_len (ps : List (Nat × Nat)) : (cellsP ps).length = ps.length * 2 := by
  induction ps with
  | nil => rfl
  | cons p ps ih =>
    unfold cellsP at ih ⊢
    rw [List.flatMap_cons, List.length_append, ih]
    simp only [List.length_cons, List.length_nil]; omega
theorem cellsP_snoc (ps : List (Nat × Nat)) (x y : Nat) : cellsP (ps ++ [(x, y)]) = cellsP ps ++ [Value.int .i64 (x : Int), .int .i64 (y : Int)] := by unfold cellsP; simp
theorem cellsP_cons (ps : List (Nat × Nat)) (x y : Nat) : cellsP ((x, y) :: ps) = .int .i64 (x : Int) :: .int .i64 (y : Int) :: cellsP ps := by unfold cellsP; simp
theorem cellsP_one (ps : List (Nat × Nat)) : ∀ u ∈ cellsP ps, u.oneCell' = true := by
  intro u hu
  obtain ⟨p, _, h⟩ := List.mem_flatMap.1 hu
  simp at h
  rcases h with rfl | rfl <;> rfl

/-- A queue of pairs, in blocks from Q0 on. -/
def QueueP (w : World) (Q0 : Nat) (v : Value) (ps : List (Nat × Nat)) : Prop :=
  ∃ ao b off cap, v = .slice ao ps.length cap ∧ Came w 2 ao b off ps.length cap (cellsP ps) ∧ (0 < cap → Q0 ≤ b)
theorem QueueP.nil (w : World) (Q0 : Nat) : QueueP w Q0 (.slice none 0 0) [] :=
  ⟨none, 0, 0, 0, rfl, ⟨Nat.le_refl _, fun h => absurd h (by omega), fun h => absurd h (by omega), rfl, fun j u h => by simp [cellsP] at h, fun j h => by omega⟩, fun h => absurd h (by omega)⟩
theorem came_keep {w w' : World} {ao : Option Addr} {b off len cap : Nat} {olds : List Value} (h : Came w 2 ao b off len cap olds) (hz : w.heap.size ≤ w'.heap.size) (hb : 0 < cap → w'.heap[b]? = w.heap[b]?) : Came w' 2 ao b off len cap olds := by
  refine ⟨h.le, h.addr, fun hc => Nat.lt_of_lt_of_le (h.lt hc) hz, h.oldsLen, fun j u hj => ?_, fun j hj => ?_⟩
  · have hcap : 0 < cap := by
      have h1 := h.le
      have h2 := h.oldsLen
      have : j < olds.length := (List.getElem?_eq_some_iff.1 hj).1
      omega
    rw [World.cell?_of_block (w := w) (a := ⟨b, off + j, none⟩) (hb hcap)]
    exact h.olds j u hj
  · have hcap : 0 < cap := by omega
    rw [World.cell?_of_block (w := w) (a := ⟨b, off + len * 2 + j, none⟩) (hb hcap), World.frozen?_of_block (w := w) (a := ⟨b, off + len * 2 + j, none⟩) (hb hcap)]
    exact h.spare j hj
theorem QueueP.keep {w w' : World} {Q0 : Nat} {v : Value} {ps : List (Nat × Nat)} (h : QueueP w Q0 v ps) (hz : w.heap.size ≤ w'.heap.size) (hb : ∀ k, Q0 ≤ k → k < w.heap.size → w'.heap[k]? = w.heap[k]?) : QueueP w' Q0 v ps := by
  obtain ⟨ao, b, off, cap, hv, hc, hq⟩ := h
  exact ⟨ao, b, off, cap, hv, came_keep hc hz (fun h0 => hb b (hq h0) (hc.lt h0)), hq⟩
theorem QueueP.head {w : World} {Q0 : Nat} {v : Value} {ps : List (Nat × Nat)} {x y : Nat} (h : QueueP w Q0 v ((x, y) :: ps)) :
    ∃ b off cap, v = .slice (some ⟨b, off, none⟩) (ps.length + 1) cap ∧ ps.length + 1 ≤ cap ∧ Q0 ≤ b ∧ b < w.heap.size ∧ w.cell? ⟨b, off, none⟩ = some (.int .i64 (x : Int)) ∧ w.cell? ⟨b, off + 1, none⟩ = some (.int .i64 (y : Int)) ∧
      QueueP w Q0 (.slice (some ⟨b, off + 2, none⟩) ps.length (cap - 1)) ps := by
  obtain ⟨ao, b, off, cap, rfl, hc, hq⟩ := h
  have hle := hc.le
  simp only [List.length_cons] at hle hc
  have hcap : 0 < cap := by omega
  obtain rfl := hc.addr hcap
  refine ⟨b, off, cap, rfl, hle, hq hcap, hc.lt hcap, hc.olds 0 _ (by rw [cellsP_cons]; rfl), hc.olds 1 _ (by rw [cellsP_cons]; rfl), _, b, off + 2, cap - 1, rfl, ⟨by omega, fun _ => rfl, fun _ => hc.lt hcap, by rw [cellsP_len], fun j u hj => ?_, fun j hj => ?_⟩, fun _ => hq hcap⟩
  · have := hc.olds (j + 2) u (by rw [cellsP_cons]; exact hj)
    rw [← this]; congr 2; omega
  · have := hc.spare j (by omega)
    rw [show off + (ps.length + 1) * 2 + j = off + 2 + ps.length * 2 + j from by omega] at this
    exact this

theorem info158 : (Try.prog.info? 158).map (fun i => (i.zero, i.size, i.bytes)) = some (some (.agg #[.int .i64 0, .int .i64 0]), 2, 16) := by kernel_rfl
abbrev pairV (x y : Nat) : List Value := [.int .i64 (x : Int), .int .i64 (y : Int)]
theorem pairV_len (x y : Nat) : (pairV x y).length = 2 := rfl
theorem run_queue {w : World} {Q0 : Nat} {v : Value} {ps : List (Nat × Nat)} (h : QueueP w Q0 v ps) (x y : Nat) (bk c : Nat) (hx : w.cell? ⟨bk, 0, none⟩ = some (.int .i64 (x : Int))) (hy : w.cell? ⟨bk, 1, none⟩ = some (.int .i64 (y : Int)))
    (hlen : ps.length ≤ 1000000) (hQ : Q0 ≤ w.heap.size) (ty : TypeId) :
    ∃ v' w', (Builtin.append_ #[154, 154] ty #[v, .slice (some ⟨bk, 0, none⟩) 1 c]).run Try.prog w = .ok v' w' ∧ QueueP w' Q0 v' (ps ++ [(x, y)]) ∧ (∃ A n c, v' = .slice A n c) ∧ Turned w w' (fun k => Q0 ≤ k) := by
  obtain ⟨ao, b, off, cap, rfl, hc, hq⟩ := h
  obtain ⟨i, hi, hz0, hz1, hz2⟩ := info_parts info158
  have hsrc : Src Try.prog 2 154 (.slice (some ⟨bk, 0, none⟩) 1 c) 1 (pairV x y) w :=
    Src.ofSlice w Try.underlying154 ⟨bk, 0, none⟩ 1 c _ rfl (fun j u hj => by
      match j, hj with
      | 0, hj => simp [pairV] at hj; subst hj; simpa [Addr.add] using hx
      | 1, hj => simp [pairV] at hj; subst hj; simpa [Addr.add] using hy
      | j + 2, hj => simp [pairV] at hj) (fun u hu => by simp [pairV] at hu; rcases hu with rfl | rfl <;> rfl)
  have hol := hc.oldsLen
  by_cases hroom : ps.length + 1 ≤ cap
  · have hcap : 0 < cap := by omega
    obtain rfl := hc.addr hcap
    have hs := hc.spare
    have hrun := run_append_room_src (P := Try.prog) w 154 154 ty 158 i Try.underlying154 hi b off ps.length cap (.slice (some ⟨bk, 0, none⟩) 1 c) 1 (pairV x y) (by rw [hz1]; exact hsrc) hroom
      (fun j hj => by rw [hz1]; exact (hs j (by rw [pairV_len] at hj; omega)).1) (fun j hj => by rw [hz1]; exact (hs j (by rw [pairV_len] at hj; omega)).2)
    rw [hz1] at hrun
    refine ⟨_, _, hrun, ⟨_, b, off, cap, by rw [List.length_append, List.length_singleton], ⟨by rw [List.length_append, List.length_singleton]; exact hroom, fun _ => rfl, fun _ => ?_, by rw [cellsP_len], fun j u hj => ?_, fun j hj => ?_⟩, hq⟩, ⟨_, _, _, rfl⟩, ?_⟩
    · show b < (World.setCell _ _ _).heap.size
      simpa [World.setCells, World.setCell] using hc.lt hcap
    · rw [cellsP_snoc] at hj
      by_cases hjl : j < (cellsP ps).length
      · rw [List.getElem?_append_left hjl] at hj
        rw [World.cell?_setCells_out b _ _ w ⟨b, off + j, none⟩ (fun _ _ => .inl (by dsimp only; omega))]
        exact hc.olds j u hj
      · rw [List.getElem?_append_right (by omega)] at hj
        have hj2 : j - (cellsP ps).length < (pairV x y).length := (List.getElem?_eq_some_iff.1 hj).1
        have hin := World.cell?_setCells_in b (pairV x y) (off + ps.length * 2) w (fun j hj => (hs j (by rw [pairV_len] at hj; omega)).1) (j - (cellsP ps).length) hj2
        rw [show off + ps.length * 2 + (j - (cellsP ps).length) = off + j from by omega] at hin
        rw [hin, ← hj, List.getElem?_eq_getElem hj2]
    · rw [List.length_append, List.length_singleton] at hj ⊢
      rw [World.frozen?_setCells, World.cell?_setCells_out b _ _ w ⟨b, off + (ps.length + 1) * 2 + j, none⟩ (fun _ _ => .inr (by dsimp only; rw [pairV_len]; omega))]
      have := hs (j + 2) (by omega)
      rw [show off + ps.length * 2 + (j + 2) = off + (ps.length + 1) * 2 + j from by omega] at this
      exact this
    · show Turned w ((w.setCell _ _).setCell _ _) _
      exact ((Turned.refl w _).setCell (p := ⟨b, off + ps.length * 2, none⟩) (.inl (hq hcap)) _).setCell (p := ⟨b, off + ps.length * 2 + 1, none⟩) (.inl (hq hcap)) _
  · have hold : (Builtin.firstCells i.size ps.length (.slice ao ps.length cap)).run Try.prog w.drew = .ok (cellsP ps).toArray w.drew := by
      rw [hz1]
      by_cases hcap : 0 < cap
      · obtain rfl := hc.addr hcap
        exact run_firstCells_some w.drew 2 ps.length ⟨b, off, none⟩ ps.length cap (cellsP ps) hol (fun j u hj => by rw [Addr.add_lit]; exact hc.olds j u hj)
      · have h0 := hc.le
        have : ps = [] := List.eq_nil_of_length_eq_zero (by omega)
        subst this
        cases ao with
        | none => exact run_firstCells_none w.drew 2 0 0 cap
        | some a => exact run_firstCells_some w.drew 2 0 a 0 cap [] rfl (fun j u hj => by simp at hj)
    have hrun := run_append_grow_src (P := Try.prog) w 154 154 ty 158 i (.agg #[.int .i64 0, .int .i64 0]) Try.underlying154 hi hz0 ao ps.length cap (cellsP ps) hold (.slice (some ⟨bk, 0, none⟩) 1 c) 1 (pairV x y) (by rw [hz1]; exact hsrc)
      (by omega) (by omega) (growslice_fits (by omega) (by rw [hz2]; omega))
    have hge := grownCap_ge w (ps.length + 1) cap 158
    have hL : (cellsP ps ++ (pairV x y)).length = (ps.length + 1) * 2 := by rw [List.length_append, cellsP_len, pairV_len]; omega
    have hsz : ((cellsP ps ++ (pairV x y)).toArray ++ Builtin.zeroCells (Value.agg #[.int .i64 0, .int .i64 0]).cells (grownCap w (ps.length + 1) cap 158 - (ps.length + 1))).size = grownCap w (ps.length + 1) cap 158 * 2 := by
      rw [Array.size_append, List.size_toArray, hL, size_zeroCells]
      show (ps.length + 1) * 2 + _ * 2 = _
      omega
    refine ⟨_, _, hrun, ⟨_, w.heap.size, 0, grownCap w (ps.length + 1) cap 158, by rw [List.length_append, List.length_singleton], ⟨by rw [List.length_append, List.length_singleton]; exact hge, fun _ => rfl, fun _ => ?_, by rw [cellsP_len], fun j u hj => ?_, fun j hj => ?_⟩, fun _ => hQ⟩, ⟨_, _, _, rfl⟩, ?_⟩
    · rw [World.size_alloc]
      exact Nat.lt_succ_self _
    · have e1 := World.cell?_alloc_new w.drew ((cellsP ps ++ (pairV x y)).toArray ++ Builtin.zeroCells (Value.agg #[.int .i64 0, .int .i64 0]).cells (grownCap w (ps.length + 1) cap 158 - (ps.length + 1))) 158 j
      rw [Nat.zero_add]
      rw [cellsP_snoc] at hj
      have hjl := (List.getElem?_eq_some_iff.1 hj).1
      refine e1.trans ?_
      rw [Array.getElem?_append_left (by simpa using hjl), List.getElem?_toArray]
      exact hj
    · rw [List.length_append, List.length_singleton] at hj ⊢
      have e1 := World.cell?_alloc_new w.drew ((cellsP ps ++ (pairV x y)).toArray ++ Builtin.zeroCells (Value.agg #[.int .i64 0, .int .i64 0]).cells (grownCap w (ps.length + 1) cap 158 - (ps.length + 1))) 158 (0 + (ps.length + 1) * 2 + j)
      refine ⟨?_, World.frozen?_alloc_new w.drew _ _ _⟩
      rw [show (w.drew.alloc (.cells ((cellsP ps ++ (pairV x y)).toArray ++ Builtin.zeroCells (Value.agg #[.int .i64 0, .int .i64 0]).cells (grownCap w (ps.length + 1) cap 158 - (ps.length + 1))) 158)).cell? ⟨w.heap.size, 0 + (ps.length + 1) * 2 + j, none⟩ = _ from e1, Array.getElem?_eq_getElem (by rw [hsz]; omega)]
      rfl
    · exact ((Turned.refl w (fun k => Q0 ≤ k)).drewN 1).alloc _
theorem wpList_queue {w : World} {ops : Array Oper} {rest : List Oper} {o : Oper} {a : Act} {Q : Exit → Act → World → Prop} {Q0 : Nat} {v : Value} {ps : List (Nat × Nat)} (hgd : o.guard = none) (s t : Operand)
    (ho : o.op = .call { callee := .builtin .append, args := #[s, t], argTypes := #[154, 154] }) (hs : a.eval s = v) (h : QueueP w Q0 v ps) (x y : Nat) (bk c : Nat) (ht : a.eval t = .slice (some ⟨bk, 0, none⟩) 1 c)
    (hx : w.cell? ⟨bk, 0, none⟩ = some (.int .i64 (x : Int))) (hy : w.cell? ⟨bk, 1, none⟩ = some (.int .i64 (y : Int))) (hlen : ps.length ≤ 1000000) (hQ : Q0 ≤ w.heap.size)
    (hK : ∀ A n c w', QueueP w' Q0 (.slice A n c) (ps ++ [(x, y)]) → Turned w w' (fun k => Q0 ≤ k) → wpList Try.prog ops Q rest (a.put o.dst (.slice A n c)) w') :
    wpList Try.prog ops Q (o :: rest) a w := by
  refine wpList_plain hgd fun K' hK' => ?_
  obtain ⟨v', w', hrun, h1, ⟨A, n, c, rfl⟩, h3⟩ := run_queue h x y bk c hx hy hlen hQ o.type
  unfold Oper.wp
  simp [execOp, ho, resolve, invoke, builtin, hs, ht, hrun, Result.andThen]
  exact hK' _ _ (hK A n c w' h1 h3)
end Go.Proofs.Ytjpppdacamhhfaa
