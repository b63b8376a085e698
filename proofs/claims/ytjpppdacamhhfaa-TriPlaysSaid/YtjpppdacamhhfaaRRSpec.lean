/- Plain laws: a round of marking. No program in sight. Conditions: none. -/
import Derived.Test.YtjpppdacamhhfaaRSpec
namespace Go.Proofs.Ytjpppdacamhhfaa
set_option linter.unusedVariables false

/-- Is a reference to be marked? -/
def newB (ws : List Int) (f : Nat → Bool) (o : Int) : Bool := isTh ws o && !f (pcl o)
def markT (ws : List Int) (f : Nat → Bool) (o : Int) : Nat → Bool := if isTh ws o = true then put1 f (pcl o) else f
theorem markT_eq {ws : List Int} {f : Nat → Bool} {o : Int} (h : fitsB ws o = true) : markT ws f o = mark1 f o := by
  unfold markT mark1
  by_cases hk : kd o = 3
  · rw [if_pos (fits_th h hk), if_pos hk]
  · rw [if_neg (fun e => hk (th_kd e)), if_neg hk]

/-- A round: f0 at its begin, L what has been looked at, f now, a: was any new? n: how many words. -/
structure Rnd (ws rs : List Int) (n : Nat) (f0 : Nat → Bool) (L : List Int) (f : Nat → Bool) (a : Bool) : Prop where
  marks : Marks ws rs f
  le : ∀ p, f0 p = true → f p = true
  no : a = false → f = f0 ∧ ∀ o ∈ L, kd o = 3 → f (pcl o) = true
  yes : a = true → cnt f0 n + 1 ≤ cnt f n
theorem Rnd.start {ws rs : List Int} {n : Nat} {f : Nat → Bool} (h : Marks ws rs f) : Rnd ws rs n f [] f false :=
  ⟨h, fun _ h => h, fun _ => ⟨rfl, by simp⟩, fun h => by cases h⟩
theorem Rnd.step {ws rs : List Int} {n : Nat} {f0 f : Nat → Bool} {L : List Int} {a : Bool} (h : Rnd ws rs n f0 L f a) (o : Int) (ho : kd o = 3 → Rch ws rs (pcl o)) (hf : fitsB ws o = true) (hn : kd o = 3 → pcl o < n) :
    Rnd ws rs n f0 (L ++ [o]) (markT ws f o) (a || newB ws f o) := by
  rw [markT_eq hf]
  have hle := mark1_le f o
  refine ⟨⟨fun p hp => ?_, fun x hx hk => hle _ (h.marks.roots x hx hk)⟩, fun p hp => hle _ (h.le p hp), ?_, ?_⟩
  · rcases mark1_true hp with e | ⟨e, rfl⟩
    · exact h.marks.just p e
    · exact ho e
  · intro ha
    rw [Bool.or_eq_false_iff] at ha
    obtain ⟨h1, h2⟩ := h.no ha.1
    have hid : mark1 f o = f := mark1_id fun hk => by
      have ht := fits_th hf hk
      have := ha.2
      unfold newB at this
      rw [ht] at this
      simpa using this
    refine ⟨hid.trans h1, fun x hx hk => ?_⟩
    rw [hid]
    rcases List.mem_append.1 hx with hx | hx
    · exact h2 x hx hk
    · rw [List.mem_singleton] at hx
      subst hx
      rw [← hid]; exact mark1_has f hk
  · intro ha
    cases hb : newB ws f o
    · rw [hb, Bool.or_false] at ha
      exact Nat.le_trans (h.yes ha) (cnt_mono hle n)
    · unfold newB at hb
      rw [Bool.and_eq_true] at hb
      have hk := th_kd hb.1
      have he : mark1 f o = put1 f (pcl o) := if_pos hk
      rw [he, cnt_put1 (by simpa using hb.2) n (hn hk)]
      have := cnt_mono h.le n
      omega
/-- Where something was new, what was looked at says nothing. -/
theorem Rnd.any {ws rs : List Int} {n : Nat} {f0 f : Nat → Bool} {L L' : List Int} (h : Rnd ws rs n f0 L f true) : Rnd ws rs n f0 L' f true :=
  ⟨h.marks, h.le, (fun e => by cases e), h.yes⟩
/-- What the marked ones of some things hold. -/
def heldL (ws : List Int) (f0 : Nat → Bool) (pre : List Nat) : List Int := (pre.filter f0).flatMap (holdsL ws)
theorem heldL_snoc (ws : List Int) (f0 : Nat → Bool) (pre : List Nat) (p : Nat) : heldL ws f0 (pre ++ [p]) = heldL ws f0 pre ++ (if f0 p = true then holdsL ws p else []) := by
  unfold heldL
  rw [List.filter_append, List.flatMap_append]
  congr 1
  cases h : f0 p <;> simp [List.filter, h]
/-- A thing that is not marked is passed by. -/
theorem Rnd.skip {ws rs : List Int} {n : Nat} {f0 f : Nat → Bool} {pre : List Nat} {p : Nat} {a : Bool} (h : Rnd ws rs n f0 (heldL ws f0 pre) f a) (hp : f p = false) : Rnd ws rs n f0 (heldL ws f0 (pre ++ [p])) f a := by
  have h0 : f0 p = false := by
    cases e : f0 p
    · rfl
    · rw [h.le p e] at hp; cases hp
  rw [heldL_snoc, if_neg (by rw [h0]; decide), List.append_nil]; exact h
/-- A thing that is marked has been looked at. -/
theorem Rnd.done {ws rs : List Int} {n : Nat} {f0 f g : Nat → Bool} {pre : List Nat} {p : Nat} {a : Bool} (h : Rnd ws rs n f0 (heldL ws f0 pre ++ holdsL ws p) f a) (hp : a = false → f0 p = true) : Rnd ws rs n f0 (heldL ws f0 (pre ++ [p])) f a := by
  cases a
  · rw [heldL_snoc, if_pos (hp rfl)]; exact h
  · exact h.any
/-- A round in which nothing was new ends closed. -/
theorem Rnd.closed {ws rs : List Int} {n : Nat} {f0 f : Nat → Bool} (hok : OkH ws) (hr : ∀ o ∈ rs, fitsB ws o = true) (h : Rnd ws rs n f0 (heldL ws f0 (places ws)) f false) : Closed ws f := by
  obtain ⟨h1, h2⟩ := h.no rfl
  intro q hq o ho hk
  refine h2 o ?_ hk
  unfold heldL
  rw [List.mem_flatMap]
  exact ⟨q, List.mem_filter.2 ⟨(h.marks.just q hq).pl hok hr, by rw [← h1]; exact hq⟩, ho⟩
/-- The roots ahead of the rounds. -/
def Rooted (ws rs : List Int) (k : Nat) (f : Nat → Bool) : Prop := (∀ p, f p = true → Rch ws rs p) ∧ ∀ j, j < k → kd (nth rs j) = 3 → f (pcl (nth rs j)) = true
theorem rooted_zero (ws rs : List Int) : Rooted ws rs 0 (fun _ => false) := ⟨(fun _ h => by cases h), fun _ h => absurd h (Nat.not_lt_zero _)⟩
theorem rooted_step {ws rs : List Int} {k : Nat} {f : Nat → Bool} (h : Rooted ws rs k f) (hk : k < rs.length) (hf : fitsB ws (nth rs k) = true) : Rooted ws rs (k + 1) (markT ws f (nth rs k)) := by
  rw [markT_eq hf]
  refine ⟨fun p hp => ?_, fun j hj h3 => ?_⟩
  · rcases mark1_true hp with e | ⟨e, rfl⟩
    · exact h.1 p e
    · exact .root _ (by rw [nth_eq hk]; exact List.getElem_mem _) e
  · rcases Nat.lt_or_ge j k with hl | hl
    · exact mark1_le f _ _ (h.2 j hl h3)
    · obtain rfl : j = k := by omega
      exact mark1_has f h3
theorem rooted_end {ws rs : List Int} {f : Nat → Bool} (h : Rooted ws rs rs.length f) : Marks ws rs f :=
  ⟨h.1, fun o ho hk => by
    obtain ⟨j, hj, rfl⟩ := List.getElem_of_mem ho
    rw [← nth_eq hj] at hk ⊢
    exact h.2 j hj hk⟩
theorem take_slot {xs : List Int} {k : Nat} (hk : k < xs.length) : xs.take (k + 1) = xs.take k ++ [nth xs k] := by
  rw [List.take_succ_eq_append_getElem hk, nth_eq hk]

end Go.Proofs.Ytjpppdacamhhfaa
