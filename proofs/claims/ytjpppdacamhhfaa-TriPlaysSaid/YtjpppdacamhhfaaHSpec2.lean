/- More plain laws on lists of words. No program in sight. Conditions: none. -/
import Derived.Test.YtjpppdacamhhfaaHSpec
namespace Go.Proofs.Ytjpppdacamhhfaa

theorem badFrom_none {ws : List Int} {p : Nat} (h : badFrom ws p = none) (hp : p < ws.length) : badB ws p = false ∧ badFrom ws (nxt ws p) = none := by
  rw [badFrom_step, if_pos hp] at h
  cases hb : badB ws p
  · rw [hb] at h; exact ⟨rfl, by simpa using h⟩
  · rw [hb] at h; simp at h

/-- From a place on, is q among the places? -/
def has (ws : List Int) (p q : Nat) : Bool := (plFrom ws p).contains q
theorem has_step {ws : List Int} {p q : Nat} (hp : p < ws.length) (hb : badB ws p = false) (hq : p < q) : has ws p q = has ws (nxt ws p) q := by
  unfold has
  rw [plFrom_ok hp hb, List.contains_cons]
  simp; omega
theorem has_end {ws : List Int} {p q : Nat} (hp : ws.length ≤ p) : has ws p q = false := by
  unfold has; rw [plFrom_end hp]; rfl
theorem has_here {ws : List Int} {p : Nat} (hp : p < ws.length) (hb : badB ws p = false) : has ws p p = true := by
  unfold has; rw [plFrom_ok hp hb]; simp
theorem has_past {ws : List Int} {p q : Nat} (hq : q < p) : has ws p q = false := by
  unfold has
  cases h : (plFrom ws p).contains q
  · rfl
  · have := (plFrom_mem (List.contains_iff_mem.1 h)).1
    omega
theorem isPl_has (ws : List Int) (q : Nat) : isPl ws q = has ws 2 q := rfl

/-- Has a thing ahead of p, from b on, the hash h? -/
def anyH (ws : List Int) (p b : Nat) (h : Int) : Bool := (plFrom ws b).any fun q => decide (q < p) && nth ws (q + 1) == h
theorem anyH_step {ws : List Int} {p b : Nat} {h : Int} (hb : b < ws.length) (hbad : badB ws b = false) (hp : b < p) : anyH ws p b h = (nth ws (b + 1) == h || anyH ws p (nxt ws b) h) := by
  unfold anyH
  rw [plFrom_ok hb hbad, List.any_cons]
  simp [hp]
theorem anyH_end {ws : List Int} {p b : Nat} {h : Int} (hp : p ≤ b) : anyH ws p b h = false := by
  unfold anyH
  rw [List.any_eq_false]
  intro q hq
  have := (plFrom_mem hq).1
  simp; omega
/-- The hashes of the things ahead of p, when they are the things pre. -/
theorem anyH_pre {ws : List Int} {p : Nat} {pre : List Nat} {h : Int} (hpl : places ws = pre ++ plFrom ws p) (hlt : ∀ q ∈ pre, q < p) :
    anyH ws p 2 h = true ↔ h ∈ (pre.map fun q => nth ws (q + 1)).reverse := by
  unfold anyH
  rw [← places_eq, hpl, List.any_append, List.mem_reverse, List.mem_map, Bool.or_eq_true, List.any_eq_true]
  constructor
  · rintro (⟨q, hq, e⟩ | e)
    · exact ⟨q, hq, by simp at e; exact e.2⟩
    · rw [List.any_eq_true] at e
      obtain ⟨q, hq, e⟩ := e
      have := (plFrom_mem hq).1
      simp at e; omega
  · rintro ⟨q, hq, e⟩
    exact .inl ⟨q, hq, by simp [hlt q hq, e]⟩

theorem bad_cases {ws : List Int} {p : Nat} (h : badB ws p = true) :
    ws.length < p + 3 ∨ (p + 3 ≤ ws.length ∧ nth ws (p + 2) < 0) ∨ (p + 3 ≤ ws.length ∧ 0 ≤ nth ws (p + 2) ∧ 2 < nth ws (p + 2) % 4) ∨
    (p + 3 ≤ ws.length ∧ 0 ≤ nth ws (p + 2) ∧ nth ws (p + 2) % 4 ≤ 2 ∧ 60 < nth ws (p + 2) / 4) ∨
    (p + 3 ≤ ws.length ∧ 0 ≤ nth ws (p + 2) ∧ nth ws (p + 2) % 4 ≤ 2 ∧ nth ws (p + 2) / 4 ≤ 60 ∧ (ws.length : Int) < p + 3 + nth ws (p + 2) / 4) := by
  simp only [badB, Bool.or_eq_true, decide_eq_true_eq] at h
  omega

/-- The things from p on, their faults, step by step. -/
theorem thingsF_go {ws : List Int} {seen : List Int} {p : Nat} (hp : p < ws.length) (hb : badB ws p = false) (h0 : (thingF ws seen p).1 = 0) :
    thingsF ws seen (plFrom ws p) = thingsF ws (nth ws (p + 1) :: seen) (plFrom ws (nxt ws p)) := by
  rw [plFrom_ok hp hb, thingsF, if_pos h0]
theorem thingsF_halt {ws : List Int} {seen : List Int} {p : Nat} (hp : p < ws.length) (hb : badB ws p = false) (h0 : ¬ (thingF ws seen p).1 = 0) :
    thingsF ws seen (plFrom ws p) = thingF ws seen p := by
  rw [plFrom_ok hp hb, thingsF, if_neg h0]
theorem thingF_class {ws seen : List Int} {p : Nat} (h : nth ws p ≠ 0) (h' : isTh ws (nth ws p) = false) : thingF ws seen p = (3, p) := by
  unfold thingF; rw [if_pos ⟨h, h'⟩]
theorem thingF_hash {ws seen : List Int} {p : Nat} (h : nth ws p = 0 ∨ isTh ws (nth ws p) = true) (h' : nth ws (p + 1) < 1 ∨ nth ws 1 ≤ nth ws (p + 1) ∨ nth ws (p + 1) ∈ seen) : thingF ws seen p = (5, p) := by
  unfold thingF
  rw [if_neg (by rintro ⟨h1, h2⟩; rcases h with h | h; exact h1 h; rw [h] at h2; cases h2), if_pos h']
theorem thingF_slot {ws seen : List Int} {p k : Nat} (h : nth ws p = 0 ∨ isTh ws (nth ws p) = true) (h' : ¬ (nth ws (p + 1) < 1 ∨ nth ws 1 ≤ nth ws (p + 1) ∨ nth ws (p + 1) ∈ seen)) (hk : bsFrom ws p 0 = some k) : thingF ws seen p = (3, k) := by
  have hk' : badSlot ws p (slotsN ws p) 0 = some k := hk
  unfold thingF
  rw [if_neg (by rintro ⟨h1, h2⟩; rcases h with h | h; exact h1 h; rw [h] at h2; cases h2), if_neg h', hk']
theorem thingF_ok {ws seen : List Int} {p : Nat} (h : nth ws p = 0 ∨ isTh ws (nth ws p) = true) (h' : ¬ (nth ws (p + 1) < 1 ∨ nth ws 1 ≤ nth ws (p + 1) ∨ nth ws (p + 1) ∈ seen)) (hk : bsFrom ws p 0 = none) : thingF ws seen p = (0, 0) := by
  have hk' : badSlot ws p (slotsN ws p) 0 = none := hk
  unfold thingF
  rw [if_neg (by rintro ⟨h1, h2⟩; rcases h with h | h; exact h1 h; rw [h] at h2; cases h2), if_neg h', hk']

end Go.Proofs.Ytjpppdacamhhfaa
