/- The plain functions on lists of words: where things begin, what may be. No program in sight. Conditions: none. -/
import Derived.Test.YtjpppdacamhhfaaSpec
namespace Go.Proofs.Ytjpppdacamhhfaa

/-- The word at a place; 0 behind the end. -/
def nth (xs : List Int) (j : Nat) : Int := xs.getD j 0
/-- Numbers of 64 bits. -/
def I64 (xs : List Int) : Prop := ∀ j, -9223372036854775808 ≤ nth xs j ∧ nth xs j ≤ 9223372036854775807

theorem nth_eq {xs : List Int} {j : Nat} (h : j < xs.length) : nth xs j = xs[j] := by simp [nth, h]
theorem nth_out {xs : List Int} {j : Nat} (h : xs.length ≤ j) : nth xs j = 0 := by simp [nth, h]

/-- Does a thing at a place not fit? -/
def badB (ws : List Int) (p : Nat) : Bool :=
  decide (ws.length < p + 3) || decide (nth ws (p + 2) < 0) || decide (2 < nth ws (p + 2) % 4) || decide (60 < nth ws (p + 2) / 4) || decide ((ws.length : Int) < p + 3 + nth ws (p + 2) / 4)
/-- How many slots; the place behind. -/
def slotsN (ws : List Int) (p : Nat) : Nat := (nth ws (p + 2) / 4).toNat
def nxt (ws : List Int) (p : Nat) : Nat := p + 3 + slotsN ws p
def formOf (ws : List Int) (p : Nat) : Int := nth ws (p + 2) % 4

theorem not_bad {ws : List Int} {p : Nat} (h : badB ws p = false) :
    p + 3 ≤ ws.length ∧ 0 ≤ nth ws (p + 2) ∧ nth ws (p + 2) % 4 ≤ 2 ∧ nth ws (p + 2) / 4 ≤ 60 ∧ p + 3 + nth ws (p + 2) / 4 ≤ (ws.length : Int) := by
  simp only [badB, Bool.or_eq_false_iff, decide_eq_false_iff_not] at h
  omega

/-- The places from p on, up to the first thing that does not fit (fuel first). -/
def placesFrom (ws : List Int) : Nat → Nat → List Nat
  | 0, _ => []
  | f + 1, p => if p < ws.length ∧ badB ws p = false then p :: placesFrom ws f (nxt ws p) else []
/-- The first thing that does not fit. -/
def firstBad (ws : List Int) : Nat → Nat → Option Nat
  | 0, _ => none
  | f + 1, p => if p < ws.length then (if badB ws p = true then some p else firstBad ws f (nxt ws p)) else none

def places (ws : List Int) : List Nat := placesFrom ws (ws.length + 1) 2
def bad1 (ws : List Int) : Option Nat := firstBad ws (ws.length + 1) 2

theorem nxt_gt (ws : List Int) (p : Nat) : p + 3 ≤ nxt ws p := by unfold nxt; omega

theorem placesFrom_stop (ws : List Int) (f p : Nat) (h : ¬ (p < ws.length ∧ badB ws p = false)) : placesFrom ws f p = [] := by
  cases f <;> simp [placesFrom, h]

/-- More fuel than is wanted changes nothing. -/
theorem placesFrom_fuel (ws : List Int) : ∀ (f g p : Nat), ws.length ≤ p + f → ws.length ≤ p + g → placesFrom ws f p = placesFrom ws g p
  | 0, g, p, h, _ => by rw [placesFrom_stop ws g p (by omega)]; rfl
  | f + 1, 0, p, _, h => by rw [placesFrom_stop ws (f + 1) p (by omega)]; rfl
  | f + 1, g + 1, p, h1, h2 => by
    have := nxt_gt ws p
    simp only [placesFrom]
    rw [placesFrom_fuel ws f g (nxt ws p) (by omega) (by omega)]
theorem firstBad_fuel (ws : List Int) : ∀ (f g p : Nat), ws.length ≤ p + f → ws.length ≤ p + g → firstBad ws f p = firstBad ws g p
  | 0, g, p, h, _ => by cases g <;> simp [firstBad]; omega
  | f + 1, 0, p, _, h => by simp [firstBad]; omega
  | f + 1, g + 1, p, h1, h2 => by
    have := nxt_gt ws p
    simp only [firstBad]
    rw [firstBad_fuel ws f g (nxt ws p) (by omega) (by omega)]

/-- The places from p on, of enough fuel. -/
def plFrom (ws : List Int) (p : Nat) : List Nat := placesFrom ws (ws.length + 1) p
def badFrom (ws : List Int) (p : Nat) : Option Nat := firstBad ws (ws.length + 1) p
theorem plFrom_step (ws : List Int) (p : Nat) : plFrom ws p = if p < ws.length ∧ badB ws p = false then p :: plFrom ws (nxt ws p) else [] := by
  unfold plFrom
  rw [placesFrom]
  rw [placesFrom_fuel ws ws.length (ws.length + 1) (nxt ws p) (by omega) (by omega)]
theorem badFrom_step (ws : List Int) (p : Nat) : badFrom ws p = if p < ws.length then (if badB ws p = true then some p else badFrom ws (nxt ws p)) else none := by
  unfold badFrom
  rw [firstBad]
  rw [firstBad_fuel ws ws.length (ws.length + 1) (nxt ws p) (by omega) (by omega)]
theorem places_eq (ws : List Int) : places ws = plFrom ws 2 := rfl
theorem bad1_eq (ws : List Int) : bad1 ws = badFrom ws 2 := rfl

/-- Is a thing at a place? -/
def isPl (ws : List Int) (p : Nat) : Bool := (places ws).contains p
/-- Is a reference of a thing? -/
def isTh (ws : List Int) (o : Int) : Bool := kd o == 3 && isPl ws (o / 2).toNat
def fitsB (ws : List Int) (o : Int) : Bool := kd o == 1 || kd o == 2 || isTh ws o
def standsB (ws : List Int) (form what : Int) : Bool := if form = 1 then decide (0 ≤ what ∧ what ≤ 255) else fitsB ws what

/-- The first slot, from slot k on, that is none (n: how many are left). -/
def badSlot (ws : List Int) (p : Nat) : Nat → Nat → Option Nat
  | 0, _ => none
  | n + 1, k => if standsB ws (formOf ws p) (nth ws (p + 3 + k)) = true then badSlot ws p n (k + 1) else some (p + 3 + k)

/-- What is wrong with a thing, by the hashes of those ahead of it: a code and a place; the code 0: nothing. -/
def thingF (ws : List Int) (seen : List Int) (p : Nat) : Int × Nat :=
  if nth ws p ≠ 0 ∧ isTh ws (nth ws p) = false then (3, p)
  else if nth ws (p + 1) < 1 ∨ nth ws 1 ≤ nth ws (p + 1) ∨ nth ws (p + 1) ∈ seen then (5, p)
  else match badSlot ws p (slotsN ws p) 0 with
    | some k => (3, k)
    | none => (0, 0)
def thingsF (ws : List Int) : List Int → List Nat → Int × Nat
  | _, [] => (0, 0)
  | seen, p :: ps => if (thingF ws seen p).1 = 0 then thingsF ws (nth ws (p + 1) :: seen) ps else thingF ws seen p

def checkF (ws : List Int) : Int × Nat :=
  if ws.length < 2 ∨ 2000 < ws.length then (1, 0)
  else if nth ws 0 ≠ 0 then (2, 0)
  else if nth ws 1 < 1 ∨ 10001 < nth ws 1 then (2, 1)
  else match bad1 ws with
    | some p => (2, p)
    | none => thingsF ws [] (places ws)

/-- The slots of a thing. -/
def slotsL (ws : List Int) (p : Nat) : List Int := (ws.drop (p + 3)).take (slotsN ws p)
theorem slotsL_len {ws : List Int} {p : Nat} (h : badB ws p = false) : (slotsL ws p).length = slotsN ws p := by
  have := not_bad h
  simp only [slotsL, List.length_take, List.length_drop, slotsN]; omega
theorem slotsL_nth {ws : List Int} {p j : Nat} (h : badB ws p = false) (hj : j < slotsN ws p) : nth (slotsL ws p) j = nth ws (p + 3 + j) := by
  have := not_bad h
  have h2 : j < (slotsL ws p).length := by rw [slotsL_len h]; exact hj
  simp only [nth, slotsL, List.getD_eq_getElem?_getD, List.getElem?_take, hj, if_true, List.getElem?_drop]

/-- Places as numbers. -/
def ups (l : List Nat) : List Int := l.map fun (p : Nat) => (p : Int)
theorem ups_len (l : List Nat) : (ups l).length = l.length := by simp [ups]
theorem ups_nth {l : List Nat} {k : Nat} (h : k < l.length) : nth (ups l) k = (l.getD k 0 : Nat) := by
  simp [nth, ups, h]
theorem ups_append (l m : List Nat) : ups (l ++ m) = ups l ++ ups m := by simp [ups]

/-- The first slot that is none, from slot k on. -/
def bsFrom (ws : List Int) (p k : Nat) : Option Nat := badSlot ws p (slotsN ws p - k) k
theorem bsFrom_step {ws : List Int} {p k : Nat} (h : k < slotsN ws p) : bsFrom ws p k = if standsB ws (formOf ws p) (nth ws (p + 3 + k)) = true then bsFrom ws p (k + 1) else some (p + 3 + k) := by
  unfold bsFrom
  rw [show slotsN ws p - k = (slotsN ws p - (k + 1)) + 1 from by omega, badSlot]
theorem bsFrom_end {ws : List Int} {p k : Nat} (h : slotsN ws p ≤ k) : bsFrom ws p k = none := by
  unfold bsFrom
  rw [show slotsN ws p - k = 0 from by omega]; rfl

theorem badFrom_bad {ws : List Int} {p : Nat} (h : p < ws.length) (hb : badB ws p = true) : badFrom ws p = some p := by rw [badFrom_step, if_pos h, if_pos hb]
theorem badFrom_ok {ws : List Int} {p : Nat} (h : p < ws.length) (hb : badB ws p = false) : badFrom ws p = badFrom ws (nxt ws p) := by rw [badFrom_step, if_pos h, hb]; rfl
theorem badFrom_end {ws : List Int} {p : Nat} (h : ws.length ≤ p) : badFrom ws p = none := by rw [badFrom_step, if_neg (by omega)]
theorem plFrom_ok {ws : List Int} {p : Nat} (h : p < ws.length) (hb : badB ws p = false) : plFrom ws p = p :: plFrom ws (nxt ws p) := by rw [plFrom_step, if_pos ⟨h, hb⟩]
theorem plFrom_end {ws : List Int} {p : Nat} (h : ws.length ≤ p) : plFrom ws p = [] := by rw [plFrom_step, if_neg (by omega)]

/-- What stands among the places fits. -/
theorem placesFrom_mem (ws : List Int) : ∀ (f p q : Nat), q ∈ placesFrom ws f p → p ≤ q ∧ q < ws.length ∧ badB ws q = false
  | 0, _, _, h => by simp [placesFrom] at h
  | f + 1, p, q, h => by
    unfold placesFrom at h
    split at h
    · rename_i hc
      rcases List.mem_cons.1 h with rfl | h
      · exact ⟨Nat.le_refl _, hc⟩
      · have h3 := placesFrom_mem ws f (nxt ws p) q h
        have := nxt_gt ws p
        exact ⟨by omega, h3.2.1, h3.2.2⟩
    · simp at h
theorem plFrom_mem {ws : List Int} {p q : Nat} (h : q ∈ plFrom ws p) : p ≤ q ∧ q < ws.length ∧ badB ws q = false := placesFrom_mem ws _ p q h
theorem places_mem {ws : List Int} {q : Nat} (h : q ∈ places ws) : 2 ≤ q ∧ q < ws.length ∧ badB ws q = false := plFrom_mem (p := 2) h

/-- The hashes of the first k places, the last one first. -/
def seenOf (ws : List Int) (ps : List Nat) (k : Nat) : List Int := ((ps.take k).map (fun p => nth ws (p + 1))).reverse
theorem seenOf_succ {ws : List Int} {ps : List Nat} {k : Nat} (h : k < ps.length) : seenOf ws ps (k + 1) = nth ws (ps.getD k 0 + 1) :: seenOf ws ps k := by
  unfold seenOf
  rw [List.take_succ_eq_append_getElem h, List.map_append, List.reverse_append]
  simp [List.getD, h]
theorem thingsF_step {ws : List Int} {ps : List Nat} {k : Nat} (h : k < ps.length) (h0 : (thingF ws (seenOf ws ps k) (ps.getD k 0)).1 = 0) :
    thingsF ws (seenOf ws ps k) (ps.drop k) = thingsF ws (seenOf ws ps (k + 1)) (ps.drop (k + 1)) := by
  have e : ps.getD k 0 = ps[k] := by simp [List.getD, h]
  rw [List.drop_eq_getElem_cons h, thingsF, ← e, if_pos h0, seenOf_succ h]
theorem thingsF_stop {ws : List Int} {ps : List Nat} {k : Nat} (h : k < ps.length) (h0 : ¬ (thingF ws (seenOf ws ps k) (ps.getD k 0)).1 = 0) :
    thingsF ws (seenOf ws ps k) (ps.drop k) = thingF ws (seenOf ws ps k) (ps.getD k 0) := by
  have e : ps.getD k 0 = ps[k] := by simp [List.getD, h]
  rw [List.drop_eq_getElem_cons h, thingsF, ← e, if_neg h0]

theorem checkF_bad {ws : List Int} {p : Nat} (h1 : 2 ≤ ws.length) (h2 : ws.length ≤ 2000) (h3 : (nth ws 0 != 0) = false) (h4 : ¬ nth ws 1 < 1) (h5 : ¬ 10001 < nth ws 1) (h : bad1 ws = some p) : checkF ws = (2, p) := by
  have h' : ¬ nth ws 0 ≠ 0 := by simpa using h3
  unfold checkF
  rw [if_neg (by omega), if_neg h', if_neg (by omega), h]
theorem checkF_none {ws : List Int} (h1 : 2 ≤ ws.length) (h2 : ws.length ≤ 2000) (h3 : (nth ws 0 != 0) = false) (h4 : ¬ nth ws 1 < 1) (h5 : ¬ 10001 < nth ws 1) (h : bad1 ws = none) : checkF ws = thingsF ws [] (places ws) := by
  have h' : ¬ nth ws 0 ≠ 0 := by simpa using h3
  unfold checkF
  rw [if_neg (by omega), if_neg h', if_neg (by omega), h]
theorem nxt_cast {ws : List Int} {p : Nat} (h : badB ws p = false) : ((nxt ws p : Nat) : Int) = (p : Int) + 3 + nth ws (p + 2) / 4 := by
  have := not_bad h
  unfold nxt slotsN; omega

end Go.Proofs.Ytjpppdacamhhfaa
