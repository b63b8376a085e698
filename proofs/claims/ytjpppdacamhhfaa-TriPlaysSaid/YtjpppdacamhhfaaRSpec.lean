/- Plain laws: what is reached in a heap from roots on. No program in sight. Conditions: none. -/
import Derived.Test.YtjpppdacamhhfaaHSpec4
namespace Go.Proofs.Ytjpppdacamhhfaa
set_option linter.unusedVariables false

/-- What a thing holds: its class; the slots of Plain. -/
def holdsL (ws : List Int) (q : Nat) : List Int := nth ws q :: (if formOf ws q = 0 then slotsL ws q else [])
/-- The place that a reference names. -/
def pcl (o : Int) : Nat := (o / 2).toNat
/-- What is reached. -/
inductive Rch (ws rs : List Int) : Nat → Prop where
  | root (o : Int) : o ∈ rs → kd o = 3 → Rch ws rs (pcl o)
  | step (q : Nat) (o : Int) : Rch ws rs q → o ∈ holdsL ws q → kd o = 3 → Rch ws rs (pcl o)

theorem fits_th {ws : List Int} {o : Int} (h : fitsB ws o = true) (hk : kd o = 3) : isTh ws o = true := by
  unfold fitsB at h; rw [hk] at h; simpa using h
theorem fits_pl {ws : List Int} {o : Int} (h : fitsB ws o = true) (hk : kd o = 3) : pcl o ∈ places ws := (isTh_mem (fits_th h hk)).1
theorem fits_zero (ws : List Int) : fitsB ws 0 = true := by simp [fitsB, kd]
theorem fits_of_th {ws : List Int} {o : Int} (h : isTh ws o = true) : fitsB ws o = true := by unfold fitsB; rw [h]; simp
theorem th_kd {ws : List Int} {o : Int} (h : isTh ws o = true) : kd o = 3 := by
  unfold isTh at h; simp at h; exact h.1
theorem th_iff {ws : List Int} {o : Int} (h : fitsB ws o = true) : isTh ws o = true ↔ kd o = 3 := ⟨th_kd, fits_th h⟩

/-- A slot's word. -/
theorem slot_fits {ws : List Int} {p k : Nat} (hok : OkH ws) (hp : p ∈ places ws) (hf : formOf ws p ≠ 1) (hk : k < slotsN ws p) : fitsB ws (nth ws (p + 3 + k)) = true := by
  have := (hok.things p hp).slots k hk
  unfold standsB at this
  rwa [if_neg hf] at this
theorem slotsL_mem {ws : List Int} {p : Nat} (hb : badB ws p = false) {o : Int} : o ∈ slotsL ws p ↔ ∃ k, k < slotsN ws p ∧ o = nth ws (p + 3 + k) := by
  constructor
  · intro h
    obtain ⟨j, hj, rfl⟩ := List.getElem_of_mem h
    have hj' : j < slotsN ws p := by rwa [slotsL_len hb] at hj
    exact ⟨j, hj', by rw [← slotsL_nth hb hj', nth_eq hj]⟩
  · rintro ⟨k, hk, rfl⟩
    have hk' : k < (slotsL ws p).length := by rw [slotsL_len hb]; exact hk
    rw [← slotsL_nth hb hk, nth_eq hk']
    exact List.getElem_mem _
theorem class_fits {ws : List Int} {p : Nat} (hok : OkH ws) (hp : p ∈ places ws) : fitsB ws (nth ws p) = true := by
  rcases (hok.things p hp).class_ with e | e
  · rw [e]; exact fits_zero ws
  · exact fits_of_th e
theorem holds_fits {ws : List Int} (hok : OkH ws) {q : Nat} (hq : q ∈ places ws) {o : Int} (ho : o ∈ holdsL ws q) : fitsB ws o = true := by
  rcases List.mem_cons.1 ho with rfl | ho
  · exact class_fits hok hq
  · split at ho
    · rename_i hf
      obtain ⟨k, hk, rfl⟩ := (slotsL_mem (places_mem hq).2.2).1 ho
      exact slot_fits hok hq (by omega) hk
    · simp at ho
theorem Rch.pl {ws rs : List Int} (hok : OkH ws) (hr : ∀ o ∈ rs, fitsB ws o = true) {p : Nat} (h : Rch ws rs p) : p ∈ places ws := by
  induction h with
  | root o ho hk => exact fits_pl (hr o ho) hk
  | step q o _ ho hk ih => exact fits_pl (holds_fits hok ih ho) hk
theorem Rch.least {ws rs : List Int} {S : Nat → Prop} (h1 : ∀ o ∈ rs, kd o = 3 → S (pcl o)) (h2 : ∀ q, S q → ∀ o ∈ holdsL ws q, kd o = 3 → S (pcl o)) {p : Nat} (h : Rch ws rs p) : S p := by
  induction h with
  | root o ho hk => exact h1 o ho hk
  | step q o _ ho hk ih => exact h2 q ih o ho hk

/-- A function that tells what is reached. -/
def Tells (ws rs : List Int) (f : Nat → Bool) : Prop := ∀ p, f p = true ↔ Rch ws rs p
theorem Tells.one {ws rs : List Int} {f g : Nat → Bool} (hf : Tells ws rs f) (hg : Tells ws rs g) : f = g := by
  funext p
  rw [Bool.eq_iff_iff, hf p, hg p]

/-! The reference's rounds: a set of marks grows till it is closed. -/
/-- What has been marked is reached; the roots are marked. -/
structure Marks (ws rs : List Int) (f : Nat → Bool) : Prop where
  just : ∀ p, f p = true → Rch ws rs p
  roots : ∀ o ∈ rs, kd o = 3 → f (pcl o) = true
/-- Nothing is to be marked. -/
def Closed (ws : List Int) (f : Nat → Bool) : Prop := ∀ q, f q = true → ∀ o ∈ holdsL ws q, kd o = 3 → f (pcl o) = true
theorem Marks.tells {ws rs : List Int} {f : Nat → Bool} (h : Marks ws rs f) (hc : Closed ws f) : Tells ws rs f := fun p =>
  ⟨h.just p, fun hr => hr.least h.roots hc⟩

/-- How many of the first n are marked. -/
def cnt (f : Nat → Bool) : Nat → Nat
  | 0 => 0
  | n + 1 => cnt f n + if f n = true then 1 else 0
theorem cnt_le (f : Nat → Bool) : ∀ n, cnt f n ≤ n
  | 0 => Nat.le_refl _
  | n + 1 => by
    have := cnt_le f n
    unfold cnt; split <;> omega
theorem cnt_mono {f g : Nat → Bool} (h : ∀ p, f p = true → g p = true) : ∀ n, cnt f n ≤ cnt g n
  | 0 => Nat.le_refl _
  | n + 1 => by
    have := cnt_mono h n
    unfold cnt
    split
    · rename_i hf; rw [if_pos (h n hf)]; omega
    · split <;> omega
/-- f, and p. -/
def put1 (f : Nat → Bool) (p : Nat) : Nat → Bool := fun q => if q = p then true else f q
theorem put1_same (f : Nat → Bool) (p : Nat) : put1 f p p = true := by simp [put1]
theorem put1_ne (f : Nat → Bool) {p q : Nat} (h : q ≠ p) : put1 f p q = f q := by simp [put1, h]
theorem put1_le (f : Nat → Bool) (p : Nat) : ∀ q, f q = true → put1 f p q = true := fun q h => by unfold put1; split <;> simp_all
theorem put1_true {f : Nat → Bool} {p q : Nat} (h : put1 f p q = true) : q = p ∨ f q = true := by
  by_cases e : q = p
  · exact .inl e
  · rw [put1_ne f e] at h; exact .inr h
theorem cnt_put1 {f : Nat → Bool} {p : Nat} (hp : f p = false) : ∀ n, p < n → cnt (put1 f p) n = cnt f n + 1
  | 0, h => absurd h (Nat.not_lt_zero _)
  | n + 1, h => by
    have hsame : ∀ k, k ≤ p → cnt (put1 f p) k = cnt f k := by
      intro k hk
      induction k with
      | zero => rfl
      | succ k ih =>
        unfold cnt
        rw [ih (by omega), put1_ne f (by omega)]
    rcases Nat.lt_or_ge p n with hl | hl
    · have := cnt_put1 hp n hl
      unfold cnt
      rw [this, put1_ne f (by omega)]; omega
    · obtain rfl : p = n := by omega
      unfold cnt
      rw [hsame p (Nat.le_refl _), put1_same, hp]; simp

/-- One reference marked, if it is of a thing. -/
def mark1 (f : Nat → Bool) (o : Int) : Nat → Bool := if kd o = 3 then put1 f (pcl o) else f
theorem mark1_le (f : Nat → Bool) (o : Int) : ∀ q, f q = true → mark1 f o q = true := fun q h => by
  unfold mark1; split
  · exact put1_le f _ q h
  · exact h
theorem mark1_has (f : Nat → Bool) {o : Int} (hk : kd o = 3) : mark1 f o (pcl o) = true := by unfold mark1; rw [if_pos hk]; exact put1_same f _
theorem mark1_true {f : Nat → Bool} {o : Int} {q : Nat} (h : mark1 f o q = true) : f q = true ∨ (kd o = 3 ∧ q = pcl o) := by
  unfold mark1 at h
  split at h
  · rename_i hk
    rcases put1_true h with e | e
    · exact .inr ⟨hk, e⟩
    · exact .inl e
  · exact .inl h
theorem put1_id {f : Nat → Bool} {p : Nat} (h : f p = true) : put1 f p = f := by
  funext q; unfold put1; split
  · rename_i e; rw [e, h]
  · rfl
theorem mark1_id {f : Nat → Bool} {o : Int} (h : kd o = 3 → f (pcl o) = true) : mark1 f o = f := by
  unfold mark1; split
  · rename_i hk; exact put1_id (h hk)
  · rfl

end Go.Proofs.Ytjpppdacamhhfaa
