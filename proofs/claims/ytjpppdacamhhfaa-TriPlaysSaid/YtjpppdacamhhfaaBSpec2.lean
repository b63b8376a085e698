/- Plain laws: a part of a list turned; who becomes who. No program in sight. Conditions: none. -/
import Derived.Test.YtjpppdacamhhfaaBSpec
namespace Go.Proofs.Ytjpppdacamhhfaa
set_option linter.unusedVariables false

/-- A part of a list, turned by h. -/
def mapSeg (h : Int → Int) (xs : List Int) (off n : Nat) : List Int := (List.range xs.length).map fun j => if off ≤ j ∧ j < off + n then h (nth xs j) else nth xs j
theorem mapSeg_len (h : Int → Int) (xs : List Int) (off n : Nat) : (mapSeg h xs off n).length = xs.length := by simp [mapSeg]
theorem mapSeg_nth {h : Int → Int} {xs : List Int} {off n j : Nat} (hj : j < xs.length) : nth (mapSeg h xs off n) j = if off ≤ j ∧ j < off + n then h (nth xs j) else nth xs j := by
  unfold mapSeg
  rw [nth_eq (by simpa using hj)]
  simp
theorem list_ext_nth {xs ys : List Int} (h : xs.length = ys.length) (hj : ∀ j, j < xs.length → nth xs j = nth ys j) : xs = ys := by
  refine List.ext_getElem h fun j h1 h2 => ?_
  have := hj j h1
  rwa [nth_eq h1, nth_eq h2] at this
theorem mapSeg_zero (h : Int → Int) (xs : List Int) (off : Nat) : mapSeg h xs off 0 = xs := by
  refine list_ext_nth (mapSeg_len _ _ _ _) fun j hj => ?_
  rw [mapSeg_len] at hj
  rw [mapSeg_nth hj, if_neg (by omega)]
theorem mapSeg_succ {h : Int → Int} {xs : List Int} {off k : Nat} (hk : off + k < xs.length) : mapSeg h xs off (k + 1) = (mapSeg h xs off k).set (off + k) (h (nth xs (off + k))) := by
  refine list_ext_nth (by simp [mapSeg_len]) fun j hj => ?_
  rw [mapSeg_len] at hj
  rw [mapSeg_nth hj, nth_set_, mapSeg_len, mapSeg_nth hj]
  by_cases e : off + k = j
  · subst e
    rw [if_pos (by omega), if_pos ⟨rfl, hk⟩]
  · rw [if_neg (c := off + k = j ∧ _) (fun h => e h.1)]
    by_cases h1 : off ≤ j ∧ j < off + k
    · rw [if_pos (by omega), if_pos h1]
    · rw [if_neg (by omega), if_neg h1]
theorem mapSeg_same {h : Int → Int} {xs : List Int} {off k : Nat} (hk : off + k < xs.length) (hs : h (nth xs (off + k)) = nth xs (off + k)) : mapSeg h xs off (k + 1) = mapSeg h xs off k := by
  refine list_ext_nth (by simp [mapSeg_len]) fun j hj => ?_
  rw [mapSeg_len] at hj
  rw [mapSeg_nth hj, mapSeg_nth hj]
  by_cases e : off + k = j
  · subst e
    rw [if_pos (by omega), if_neg (by omega), hs]
  · by_cases h1 : off ≤ j ∧ j < off + k
    · rw [if_pos (by omega), if_pos h1]
    · rw [if_neg (by omega), if_neg h1]
theorem mapSeg_at {h : Int → Int} {xs : List Int} {off k : Nat} (hk : off + k < xs.length) : nth (mapSeg h xs off k) (off + k) = nth xs (off + k) := by
  rw [mapSeg_nth hk, if_neg (by omega)]
theorem mapSeg_all (h : Int → Int) (xs : List Int) : mapSeg h xs 0 xs.length = xs.map h := by
  refine list_ext_nth (by simp [mapSeg_len]) fun j hj => ?_
  rw [mapSeg_len] at hj
  rw [mapSeg_nth hj, if_pos (by omega)]
  unfold nth
  simp [hj]

/-- One thing's references, turned. -/
def stepX (h : Int → Int) (ws xs : List Int) (p : Nat) : List Int := if formOf ws p = 1 then mapSeg h xs p 1 else mapSeg h (mapSeg h xs p 1) (p + 3) (slotsN ws p)
theorem stepX_len (h : Int → Int) (ws xs : List Int) (p : Nat) : (stepX h ws xs p).length = xs.length := by unfold stepX; split <;> simp [mapSeg_len]
/-- All things' references, turned. -/
def exchF (h : Int → Int) (ws : List Int) (ps : List Nat) : List Int := ps.foldl (stepX h ws) ws
theorem exchF_len (h : Int → Int) (ws : List Int) (ps : List Nat) : (exchF h ws ps).length = ws.length := by
  unfold exchF
  suffices H : ∀ (ps : List Nat) (xs : List Int), (ps.foldl (stepX h ws) xs).length = xs.length from H ps ws
  intro ps
  induction ps with
  | nil => intro xs; rfl
  | cons p ps ih => intro xs; rw [List.foldl_cons, ih, stepX_len]
theorem exchF_snoc (h : Int → Int) (ws : List Int) (ps : List Nat) (p : Nat) : exchF h ws (ps ++ [p]) = stepX h ws (exchF h ws ps) p := by
  unfold exchF; rw [List.foldl_append]; rfl

theorem otFrom_skip {fr to : List Int} {both : Bool} {o : Int} : ∀ j, j ≤ fr.length → ¬ Named fr to both j o → otFrom fr to both o 0 = otFrom fr to both o j
  | 0, _, _ => rfl
  | j + 1, hj, h => by
    have h' : ¬ Named fr to both j o := fun e => h (named_succ.2 (.inl e))
    rw [otFrom_skip j (by omega) h', otFrom_step (by omega), if_neg (fun e => h (named_succ.2 (.inr (.inl e)))), if_neg (fun e => h (named_succ.2 (.inr (.inr e))))]
theorem other_none {fr to : List Int} {both : Bool} {o : Int} (h : ¬ Named fr to both fr.length o) : other fr to both o = o := by
  rw [other_eq, otFrom_skip _ (Nat.le_refl _) h, otFrom_end]
theorem other_from {fr to : List Int} {both : Bool} {j : Nat} (hj : j < fr.length) (h : ¬ Named fr to both j (nth fr j)) : other fr to both (nth fr j) = nth to j := by
  rw [other_eq, otFrom_skip j (by omega) h, otFrom_step hj, if_pos rfl]
theorem other_to {fr to : List Int} {j : Nat} (hj : j < fr.length) (h : ¬ Named fr to true j (nth to j)) (hne : nth fr j ≠ nth to j) : other fr to true (nth to j) = nth fr j := by
  rw [other_eq, otFrom_skip j (by omega) h, otFrom_step hj, if_neg hne, if_pos ⟨rfl, rfl⟩]
theorem bt_none {fr to : List Int} {both : Bool} (h : btFrom fr to both 0 = none) : ∀ j, j < fr.length → ¬ Twice fr to both j := by
  have key : ∀ n i, badTwice fr to both n i = none → ∀ k, k < n → ¬ Twice fr to both (i + k) := by
    intro n
    induction n with
    | zero => intro i _ k hk; omega
    | succ n ih =>
      intro i hi k hk
      unfold badTwice at hi
      split at hi
      · cases hi
      · rename_i ht
        cases k with
        | zero => simpa using ht
        | succ k =>
          have := ih (i + 1) hi k (by omega)
          rwa [show i + (k + 1) = i + 1 + k from by omega]
  intro j hj
  have := key _ 0 h j (by simpa using hj)
  rwa [Nat.zero_add] at this

end Go.Proofs.Ytjpppdacamhhfaa
