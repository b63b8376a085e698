/- What is held: the plain law of holding. Conditions: none. -/
import Derived.Test.YtjpppdacamhhfaaGive
import Derived.Test.YtjpppdacamhhfaaISpec
namespace Go.Proofs.Ytjpppdacamhhfaa
open Go.RowKit
set_option linter.unusedVariables false

/-- What is left of counts while references are taken away. -/
def subF (A L : List Int) (q : Nat) : Int := cntF A q - cntF L q
theorem subF_thing {A L : List Int} {o : Int} (hk : kd o = 3) : subF A (L ++ [o]) = addF (subF A L) (pcl o) (-1) := by
  funext q
  show cntF A q - cntF (L ++ [o]) q = addF (subF A L) (pcl o) (-1) q
  rw [cntF_thing hk]
  unfold addF subF
  split <;> omega
theorem subF_other {A L : List Int} {o : Int} (hk : kd o ≠ 3) : subF A (L ++ [o]) = subF A L := by
  funext q
  unfold subF
  rw [cntF_other hk]
theorem subF_nil (A : List Int) : subF A [] = cntF A := by funext q; unfold subF; rw [cntF_nil]; simp
theorem cntF_append (A B : List Int) (q : Nat) : cntF (A ++ B) q = cntF A q + cntF B q := by
  unfold cntF
  rw [List.filter_append, List.length_append]; omega
theorem subF_all (rs B : List Int) : subF (rs ++ B) B = cntF rs := by funext q; unfold subF; rw [cntF_append]; omega
theorem cntF_pos {L : List Int} {p : Nat} : 0 < cntF L p ↔ ∃ o ∈ L, kd o = 3 ∧ pcl o = p := by
  unfold cntF
  constructor
  · intro h
    have h2 : 0 < (L.filter fun o => kd o == 3 && pcl o == p).length := by omega
    obtain ⟨o, ho⟩ := List.exists_mem_of_length_pos h2
    have := List.mem_filter.1 ho
    simp at this
    exact ⟨o, this.1, this.2.1, this.2.2⟩
  · rintro ⟨o, ho, hk, hp⟩
    have : o ∈ L.filter fun o => kd o == 3 && pcl o == p := List.mem_filter.2 ⟨ho, by simp [hk, hp]⟩
    have := List.length_pos_of_mem this
    omega

/-- How far holding has come from H0. -/
structure HeldI (ws rs : List Int) (H0 H : List Nat) (L : List Int) : Prop where
  nodup : H.Nodup
  sub : ∀ p ∈ H0, p ∈ H
  hit : ∀ o ∈ L, kd o = 3 → pcl o ∈ H
  closed : ∀ p ∈ H, p ∉ H0 → ∀ o ∈ holdsL ws p, kd o = 3 → pcl o ∈ H
  rch : ∀ p ∈ H, Rch ws rs p
section
variable {ws rs : List Int} {H0 H H' : List Nat} {L : List Int} {o : Int}
theorem HeldI.start (hn : H.Nodup) (hr : ∀ p ∈ H, Rch ws rs p) : HeldI ws rs H H [] := ⟨hn, fun _ h => h, fun o h => by simp at h, fun p h1 h2 => absurd h1 h2, hr⟩
theorem HeldI.pass (h : HeldI ws rs H0 H L) (ho : kd o = 3 → pcl o ∈ H) : HeldI ws rs H0 H (L ++ [o]) :=
  ⟨h.nodup, h.sub, fun x hx hk => by
    rcases List.mem_append.1 hx with hx | hx
    · exact h.hit x hx hk
    · rw [List.mem_singleton] at hx; subst hx; exact ho hk, h.closed, h.rch⟩
theorem HeldI.step (h : HeldI ws rs H0 H L) (h' : HeldI ws rs H H' [o]) : HeldI ws rs H0 H' (L ++ [o]) :=
  ⟨h'.nodup, fun p hp => h'.sub p (h.sub p hp), fun x hx hk => by
    rcases List.mem_append.1 hx with hx | hx
    · exact h'.sub _ (h.hit x hx hk)
    · exact h'.hit x hx hk, fun p hp hn x hx hk => by
    by_cases hH : p ∈ H
    · exact h'.sub _ (h.closed p hH hn x hx hk)
    · exact h'.closed p hp hH x hx hk, h'.rch⟩
theorem HeldI.deep {p : Nat} (h : HeldI ws rs (H ++ [p]) H' (holdsL ws p)) (hp : pcl o = p) : HeldI ws rs H H' [o] :=
  ⟨h.nodup, fun q hq => h.sub q (List.mem_append_left _ hq), fun x hx hk => by
    rw [List.mem_singleton] at hx; subst hx
    rw [hp]; exact h.sub p (by simp), fun q hq hn x hx hk => by
    by_cases e : q = p
    · subst e; exact h.hit x hx hk
    · exact h.closed q hq (fun hm => by
        rcases List.mem_append.1 hm with hm | hm
        · exact hn hm
        · rw [List.mem_singleton] at hm; exact e hm) x hx hk, h.rch⟩
theorem nodup_len {a b : List Nat} (h : a.Nodup) (hs : ∀ p ∈ a, p ∈ b) : a.length ≤ b.length := len_le h hs
theorem HeldI.len (h : HeldI ws rs H0 H L) (hn : H0.Nodup) : H0.length ≤ H.length := nodup_len hn h.sub
theorem HeldI.more (hn : H.Nodup) (hr : ∀ p ∈ H, Rch ws rs p) {p : Nat} (hp : p ∉ H) (hrp : Rch ws rs p) : (H ++ [p]).Nodup ∧ ∀ q ∈ H ++ [p], Rch ws rs q := by
  refine ⟨List.nodup_append.2 ⟨hn, by simp, fun a ha b hb => by rw [List.mem_singleton] at hb; subst hb; intro e; subst e; exact hp ha⟩, fun q hq => ?_⟩
  rcases List.mem_append.1 hq with hq | hq
  · exact hr q hq
  · rw [List.mem_singleton] at hq; subst hq; exact hrp
theorem HeldI.all (h : HeldI ws rs [] H L) (hall : ∀ o ∈ rs, kd o = 3 → pcl o ∈ H) : ∀ p, p ∈ H ↔ Rch ws rs p := fun p =>
  ⟨h.rch p, fun hr => hr.least (S := fun p => p ∈ H) hall (fun q hq o ho hk => h.closed q hq (by simp) o ho hk)⟩
theorem kd_dbl {p : Nat} (hp : 2 ≤ p) (h2 : p ≤ 1999) : kd (2 * (p : Int)) = 3 := (kd_three _).2 ⟨by omega, by omega, by omega⟩
theorem pcl_dbl (p : Nat) : pcl (2 * (p : Int)) = p := by unfold pcl; omega
end
end Go.Proofs.Ytjpppdacamhhfaa
