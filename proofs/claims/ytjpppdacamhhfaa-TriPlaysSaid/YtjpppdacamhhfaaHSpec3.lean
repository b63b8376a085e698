/- Plain functions: what is told of the things of a heap that may be. No program in sight. Conditions: none. -/
import Derived.Test.YtjpppdacamhhfaaHSpec2
namespace Go.Proofs.Ytjpppdacamhhfaa

/-- May a heap be? -/
def okB (ws : List Int) : Bool := (checkF ws).1 == 0
/-- The same numbers? -/
def eqB (xs ys : List Int) : Bool := decide (xs = ys)
theorem eqB_self (xs : List Int) : eqB xs xs = true := by simp [eqB]

theorem thingF_code (ws seen : List Int) (p : Nat) : (thingF ws seen p).1 = 0 → thingF ws seen p = (0, 0) := by
  unfold thingF
  split
  · intro h; cases h
  · split
    · intro h; cases h
    · split
      · intro h; cases h
      · intro _; rfl
theorem thingsF_code (ws : List Int) : ∀ (ps : List Nat) (seen : List Int), (thingsF ws seen ps).1 = 0 → thingsF ws seen ps = (0, 0)
  | [], _, _ => rfl
  | p :: ps, seen, h => by
    unfold thingsF at h ⊢
    split at h
    · rename_i h0; rw [if_pos h0]; exact thingsF_code ws ps _ h
    · rename_i h0; exact absurd h h0
theorem checkF_code {ws : List Int} (h : (checkF ws).1 = 0) : checkF ws = (0, 0) := by
  unfold checkF at h ⊢
  split
  · rename_i h1; rw [if_pos h1] at h; cases h
  · rename_i h1
    rw [if_neg h1] at h
    split
    · rename_i h2; rw [if_pos h2] at h; cases h
    · rename_i h2
      rw [if_neg h2] at h
      split
      · rename_i h3; rw [if_pos h3] at h; cases h
      · rename_i h3
        rw [if_neg h3] at h
        split
        · rename_i p hp; rw [hp] at h; cases h
        · rename_i hp; rw [hp] at h; exact thingsF_code _ _ _ h

/-- What a thing of a heap that may be is. -/
structure OkThing (ws : List Int) (p : Nat) : Prop where
  class_ : nth ws p = 0 ∨ isTh ws (nth ws p) = true
  hash1 : 1 ≤ nth ws (p + 1)
  hash2 : nth ws (p + 1) < nth ws 1
  slots : ∀ k, k < slotsN ws p → standsB ws (formOf ws p) (nth ws (p + 3 + k)) = true

/-- What a heap that may be is. -/
structure OkH (ws : List Int) : Prop where
  two : 2 ≤ ws.length
  most : ws.length ≤ 2000
  w0 : nth ws 0 = 0
  w1 : 1 ≤ nth ws 1
  w1m : nth ws 1 ≤ 10001
  bad : bad1 ws = none
  things : ∀ p ∈ places ws, OkThing ws p
  hashes : ((places ws).map fun p => nth ws (p + 1)).Nodup

theorem badSlot_none {ws : List Int} {p : Nat} : ∀ (n k : Nat), badSlot ws p n k = none → ∀ j, j < n → standsB ws (formOf ws p) (nth ws (p + 3 + (k + j))) = true
  | 0, _, _, _, h => absurd h (Nat.not_lt_zero _)
  | n + 1, k, h, j, hj => by
    unfold badSlot at h
    split at h
    · rename_i hs
      cases j with
      | zero => simpa using hs
      | succ j =>
        have := badSlot_none n (k + 1) h j (by omega)
        rw [show k + (j + 1) = k + 1 + j from by omega]; exact this
    · cases h
theorem badSlot_all {ws : List Int} {p : Nat} : ∀ (n k : Nat), (∀ j, j < n → standsB ws (formOf ws p) (nth ws (p + 3 + (k + j))) = true) → badSlot ws p n k = none
  | 0, _, _ => rfl
  | n + 1, k, h => by
    unfold badSlot
    have h0 := h 0 (by omega)
    rw [Nat.add_zero k] at h0
    rw [if_pos h0]
    exact badSlot_all n (k + 1) fun j hj => by
      have := h (j + 1) (by omega)
      rw [show k + 1 + j = k + (j + 1) from by omega]; exact this

theorem thingF_zero {ws seen : List Int} {p : Nat} : (thingF ws seen p).1 = 0 ↔ OkThing ws p ∧ nth ws (p + 1) ∉ seen := by
  constructor
  · intro h
    unfold thingF at h
    split at h
    · cases h
    · rename_i h1
      split at h
      · cases h
      · rename_i h2
        simp only [not_or] at h2
        split at h
        · cases h
        · rename_i hk
          refine ⟨⟨?_, by omega, by omega, fun k hk' => ?_⟩, h2.2.2⟩
          · cases hi : isTh ws (nth ws p)
            · exact .inl (Classical.byContradiction fun hn => h1 ⟨hn, hi⟩)
            · exact .inr rfl
          · have := badSlot_none _ _ hk k hk'
            rwa [Nat.zero_add] at this
  · rintro ⟨h, hs⟩
    unfold thingF
    have hc : ¬ (nth ws p ≠ 0 ∧ isTh ws (nth ws p) = false) := by
      rintro ⟨a, b⟩
      rcases h.class_ with e | e
      · exact a e
      · rw [e] at b; cases b
    have hh : ¬ (nth ws (p + 1) < 1 ∨ nth ws 1 ≤ nth ws (p + 1) ∨ nth ws (p + 1) ∈ seen) := by
      have := h.hash1; have := h.hash2
      rintro (a | a | a)
      · omega
      · omega
      · exact hs a
    have hb : badSlot ws p (slotsN ws p) 0 = none := badSlot_all _ _ fun j hj => by rw [Nat.zero_add]; exact h.slots j hj
    rw [if_neg hc, if_neg hh, hb]
theorem thingsF_zero {ws : List Int} : ∀ (ps : List Nat) (seen : List Int), (thingsF ws seen ps).1 = 0 ↔ (∀ p ∈ ps, OkThing ws p) ∧ (∀ p ∈ ps, nth ws (p + 1) ∉ seen) ∧ (ps.map fun p => nth ws (p + 1)).Nodup
  | [], seen => by simp [thingsF]
  | p :: ps, seen => by
    unfold thingsF
    by_cases h0 : (thingF ws seen p).1 = 0
    · rw [if_pos h0, thingsF_zero ps]
      obtain ⟨a, b⟩ := thingF_zero.1 h0
      simp only [List.mem_cons, forall_eq_or_imp, List.map_cons, List.nodup_cons, List.mem_map, not_exists, not_and, not_or]
      constructor
      · rintro ⟨h1, h2, h3⟩
        exact ⟨⟨a, h1⟩, ⟨b, fun q hq => (h2 q hq).2⟩, fun q hq e => (h2 q hq).1 e, h3⟩
      · rintro ⟨⟨_, h1⟩, ⟨_, h2⟩, h3, h4⟩
        exact ⟨h1, fun q hq => ⟨fun e => h3 q hq e, h2 q hq⟩, h4⟩
    · rw [if_neg h0]
      constructor
      · intro h; exact absurd h h0
      · rintro ⟨h1, h2, _⟩
        exact absurd (thingF_zero.2 ⟨h1 p (List.mem_cons_self), h2 p (List.mem_cons_self)⟩) h0

theorem okB_iff {ws : List Int} : okB ws = true ↔ OkH ws := by
  unfold okB
  rw [beq_iff_eq]
  constructor
  · intro h
    unfold checkF at h
    split at h
    · cases h
    · rename_i h1
      split at h
      · cases h
      · rename_i h2
        split at h
        · cases h
        · rename_i h3
          split at h
          · cases h
          · rename_i hp
            have := (thingsF_zero _ _).1 h
            exact ⟨by omega, by omega, by simpa using h2, by omega, by omega, hp, this.1, this.2.2⟩
  · intro h
    have h1 := h.two; have h2 := h.most; have h3 := h.w1; have h4 := h.w1m; have h5 := h.w0
    unfold checkF
    rw [if_neg (by omega), if_neg (by simpa using h5), if_neg (by omega), h.bad]
    exact (thingsF_zero _ _).2 ⟨h.things, fun _ _ => by simp, h.hashes⟩

/-- The references of all things. -/
def thingsL (ws : List Int) : List Int := (places ws).map fun (p : Nat) => 2 * (p : Int)

/-- A heap with a thing more; what stands against it. -/
def newW (ws : List Int) (cl fm sz : Int) : List Int := (ws.set 1 (nth ws 1 + 1) ++ [cl, nth ws 1, 4 * sz + fm]) ++ List.replicate sz.toNat 0
def newE (ws : List Int) (cl fm sz : Int) : Int :=
  if cl ≠ 0 ∧ isTh ws cl = false then 3 else if fm < 0 ∨ 2 < fm ∨ sz < 0 ∨ 60 < sz then 4 else if 2000 < ws.length + 3 + sz ∨ 10000 < nth ws 1 then 6 else 0

/-- A thing, told. -/
def lookE (ws : List Int) (x : Int) : Int := if isTh ws x then 0 else 3
/-- A slot changed; what stands against it. -/
def putE (ws : List Int) (x at_ what : Int) : Int :=
  if isTh ws x = false then 3 else if at_ < 0 ∨ (slotsN ws (x / 2).toNat : Int) ≤ at_ then 4 else if standsB ws (formOf ws (x / 2).toNat) what = false then 2 else 0
def putW (ws : List Int) (x at_ what : Int) : List Int := ws.set ((x / 2).toNat + 3 + at_.toNat) what

end Go.Proofs.Ytjpppdacamhhfaa
