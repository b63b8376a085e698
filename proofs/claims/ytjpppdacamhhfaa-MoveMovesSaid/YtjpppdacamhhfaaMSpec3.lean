/- Plain laws: words laid as they were, then turned one by one. No program in sight. Conditions: none. -/
import Derived.Test.YtjpppdacamhhfaaMSpec2
namespace Go.Proofs.Ytjpppdacamhhfaa
set_option linter.unusedVariables false

theorem part_visit0 {ws : List Int} {ord : List Nat} {xs : List Int} (h : PartW ws ord (fun _ _ => False) xs) {o : Int} (ho : fitsB ws o = true) : PartW ws (visit ord o) (fun _ _ => False) (pushL ws ord o xs) :=
  h.visit ho (fun _ _ _ _ e => e.elim) (fun _ _ _ _ e => e)
theorem part_raw0 {ws : List Int} {ord : List Nat} {xs : List Int} (h : PartW ws ord (fun _ _ => False) xs) {p i : Nat} (hp : p ∈ ord) (hi : i < szT ws p) : nth xs (toO ws ord p + i) = nth ws (p + i) := h.no p hp i hi (fun e => e)

/-- Of the things in D all is turned, of the thing p the first j words. -/
def turnC (ws : List Int) (D : List Nat) (p j : Nat) (q i : Nat) : Prop := refI ws q i ∧ (q ∈ D ∨ (q = p ∧ i < j))
structure Turn (ws : List Int) (ord D : List Nat) (p j : Nat) (xs : List Int) : Prop where
  part : PartW ws ord (turnC ws D p j) xs
  here : p ∉ D
theorem turn_start {ws : List Int} {ord : List Nat} {xs : List Int} (h : PartW ws ord (fun _ _ => False) xs) (p : Nat) : Turn ws ord [] p 0 xs :=
  ⟨h.same fun q hq i hi => by
    unfold turnC
    constructor
    · exact fun e => e.elim
    · rintro ⟨_, e | ⟨_, e⟩⟩
      · simp at e
      · omega, by simp⟩
theorem Turn.put {ws : List Int} {ord D : List Nat} {p j : Nat} {xs : List Int} (h : Turn ws ord D p j xs) (hp : p ∈ ord) (hj : j < szT ws p) (hs : refI ws p j) :
    Turn ws ord D p (j + 1) (xs.set (toO ws ord p + j) (nowO (toO ws ord) (nth ws (p + j)))) := by
  refine ⟨h.part.set hp hj ?_, h.here⟩
  intro q hq i hi
  unfold turnC
  constructor
  · rintro ⟨a, b | ⟨rfl, b⟩⟩
    · exact .inl ⟨a, .inl b⟩
    · by_cases e : i = j
      · exact .inr ⟨rfl, e⟩
      · exact .inl ⟨a, .inr ⟨rfl, by omega⟩⟩
  · rintro (⟨a, b | ⟨rfl, b⟩⟩ | ⟨rfl, rfl⟩)
    · exact ⟨a, .inl b⟩
    · exact ⟨a, .inr ⟨rfl, by omega⟩⟩
    · exact ⟨hs, .inr ⟨rfl, by omega⟩⟩
theorem Turn.pass {ws : List Int} {ord D : List Nat} {p j j' : Nat} {xs : List Int} (h : Turn ws ord D p j xs) (hjj : j ≤ j') (hs : ∀ i, j ≤ i → i < j' → i < szT ws p → ¬ refI ws p i) : Turn ws ord D p j' xs := by
  refine ⟨h.part.same ?_, h.here⟩
  intro q hq i hi
  unfold turnC
  constructor
  · rintro ⟨a, b | ⟨rfl, b⟩⟩
    · exact ⟨a, .inl b⟩
    · exact ⟨a, .inr ⟨rfl, by omega⟩⟩
  · rintro ⟨a, b | ⟨rfl, b⟩⟩
    · exact ⟨a, .inl b⟩
    · by_cases e : i < j
      · exact ⟨a, .inr ⟨rfl, e⟩⟩
      · exact absurd a (hs i (by omega) b hi)
theorem Turn.next {ws : List Int} {ord D : List Nat} {p : Nat} {xs : List Int} (h : Turn ws ord D p (szT ws p) xs) {p' : Nat} (hp' : p' ∉ D ++ [p]) : Turn ws ord (D ++ [p]) p' 0 xs := by
  refine ⟨h.part.same ?_, hp'⟩
  intro q hq i hi
  unfold turnC
  constructor
  · rintro ⟨a, b | ⟨rfl, b⟩⟩
    · exact ⟨a, .inl (List.mem_append_left _ b)⟩
    · exact ⟨a, .inl (by simp)⟩
  · rintro ⟨a, b | ⟨rfl, b⟩⟩
    · rcases List.mem_append.1 b with b | b
      · exact ⟨a, .inl b⟩
      · rw [List.mem_singleton] at b
        subst b
        exact ⟨a, .inr ⟨rfl, hi⟩⟩
    · omega
theorem Turn.other {ws : List Int} {ord D : List Nat} {p p' : Nat} {xs : List Int} (h : Turn ws ord D p 0 xs) (hp' : p' ∉ D) : Turn ws ord D p' 0 xs :=
  ⟨h.part.same fun q hq i hi => by
    unfold turnC
    constructor
    · rintro ⟨a, b | ⟨_, b⟩⟩
      · exact ⟨a, .inl b⟩
      · omega
    · rintro ⟨a, b | ⟨_, b⟩⟩
      · exact ⟨a, .inl b⟩
      · omega, hp'⟩
theorem Turn.raw {ws : List Int} {ord D : List Nat} {p j i : Nat} {xs : List Int} (h : Turn ws ord D p j xs) (hp : p ∈ ord) (hi : i < szT ws p) (hji : j ≤ i) : nth xs (toO ws ord p + i) = nth ws (p + i) :=
  h.part.no p hp i hi (fun e => by
    rcases e.2 with e' | ⟨_, e'⟩
    · exact h.here e'
    · omega)
theorem Turn.head {ws : List Int} {ord D : List Nat} {p j : Nat} {xs : List Int} (h : Turn ws ord D p j xs) (hp : p ∈ ord) : nth xs (toO ws ord p + 2) = nth ws (p + 2) :=
  h.part.no p hp 2 (by unfold szT; omega) (fun e => by
    rcases e.1 with e' | ⟨e', _⟩ <;> omega)
theorem turn_end {ws : List Int} {ord : List Nat} {p : Nat} {xs : List Int} (ho : Ordr ws ord) (h : Turn ws ord ord p 0 xs) : xs = arrW ws ord :=
  (h.part.same fun q hq i hi => by
    unfold turnC
    constructor
    · exact fun a => a.1
    · exact fun a => ⟨a, .inl hq⟩).fin ho.nodup ho.bad
/-- One thing more is turned. -/
theorem turn_step {ws : List Int} {ord : List Nat} {p k AT : Nat} {xs : List Int} (ho : Ordr ws ord) (hk : k < ord.length) (ht : ord.take (k + 1) = ord.take k ++ [p]) (hat : endO ws (ord.take k) 2 = AT) (h : Turn ws ord (ord.take k) p (szT ws p) xs) :
    Turn ws ord (ord.take (k + 1)) 0 0 xs ∧ endO ws (ord.take (k + 1)) 2 = AT + szT ws p := by
  have h0 : 0 ∉ ord.take (k + 1) := zero_out ho (k + 1)
  rw [ht] at h0 ⊢
  exact ⟨h.next h0, by rw [endO_snoc, hat]⟩
end Go.Proofs.Ytjpppdacamhhfaa
