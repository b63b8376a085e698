/- Plain laws: what is reached, by a list of what is still to be looked at. No program in sight. Conditions: none. -/
import Derived.Test.YtjpppdacamhhfaaRRSpec
import Derived.Test.YtjpppdacamhhfaaISpec
namespace Go.Proofs.Ytjpppdacamhhfaa
set_option linter.unusedVariables false

structure SeenI (ws rs : List Int) (S : List Nat) (xs : List Int) : Prop where
  nodup : S.Nodup
  just : ∀ p ∈ S, Rch ws rs p
  todo : ∀ o ∈ xs, kd o = 3 → Rch ws rs (pcl o)
  fit : ∀ o ∈ xs, fitsB ws o = true
  roots : ∀ o ∈ rs, kd o = 3 → pcl o ∈ S ∨ o ∈ xs
  held : ∀ q ∈ S, ∀ o ∈ holdsL ws q, kd o = 3 → pcl o ∈ S ∨ o ∈ xs
theorem SeenI.start {ws rs : List Int} (hr : ∀ o ∈ rs, fitsB ws o = true) : SeenI ws rs [] rs :=
  ⟨List.nodup_nil, fun _ h => by simp at h, fun o ho hk => .root o ho hk, hr, fun o ho _ => .inr ho, fun _ h => by simp at h⟩
theorem SeenI.skip {ws rs ys : List Int} {S : List Nat} {o : Int} (h : SeenI ws rs S (ys ++ [o])) (hs : kd o ≠ 3 ∨ pcl o ∈ S) : SeenI ws rs S ys := by
  have key : ∀ x, kd x = 3 → pcl x ∈ S ∨ x ∈ ys ++ [o] → pcl x ∈ S ∨ x ∈ ys := fun x hk hx => by
    rcases hx with hx | hx
    · exact .inl hx
    · rcases List.mem_append.1 hx with hx | hx
      · exact .inr hx
      · rw [List.mem_singleton] at hx
        subst hx
        exact .inl (hs.resolve_left (fun e => e hk))
  exact ⟨h.nodup, h.just, fun x hx => h.todo x (List.mem_append_left _ hx), fun x hx => h.fit x (List.mem_append_left _ hx), fun x hx hk => key x hk (h.roots x hx hk), fun q hq x hx hk => key x hk (h.held q hq x hx hk)⟩
theorem SeenI.push {ws rs ys : List Int} {S : List Nat} {o : Int} (hok : OkH ws) (hr : ∀ o ∈ rs, fitsB ws o = true) (h : SeenI ws rs S (ys ++ [o])) (hk : kd o = 3) (hs : pcl o ∉ S) : SeenI ws rs (S ++ [pcl o]) (ys ++ holdsL ws (pcl o)) := by
  have hro := h.todo o (by simp) hk
  have hpl := hro.pl hok hr
  have key : ∀ x, pcl x ∈ S ∨ x ∈ ys ++ [o] → pcl x ∈ S ++ [pcl o] ∨ x ∈ ys ++ holdsL ws (pcl o) := fun x hx => by
    rcases hx with hx | hx
    · exact .inl (List.mem_append_left _ hx)
    · rcases List.mem_append.1 hx with hx | hx
      · exact .inr (List.mem_append_left _ hx)
      · rw [List.mem_singleton] at hx
        subst hx
        exact .inl (by simp)
  refine ⟨?_, ?_, ?_, ?_, fun x hx h3 => key x (h.roots x hx h3), ?_⟩
  · rw [List.nodup_append]
    refine ⟨h.nodup, by simp, fun a ha b hb e => ?_⟩
    rw [List.mem_singleton] at hb
    subst hb; subst e
    exact hs ha
  · intro p hp
    rcases List.mem_append.1 hp with hp | hp
    · exact h.just p hp
    · rw [List.mem_singleton] at hp; subst hp; exact hro
  · intro x hx h3
    rcases List.mem_append.1 hx with hx | hx
    · exact h.todo x (List.mem_append_left _ hx) h3
    · exact .step _ x hro hx h3
  · intro x hx
    rcases List.mem_append.1 hx with hx | hx
    · exact h.fit x (List.mem_append_left _ hx)
    · exact holds_fits hok hpl hx
  · intro q hq x hx h3
    rcases List.mem_append.1 hq with hq | hq
    · exact key x (h.held q hq x hx h3)
    · rw [List.mem_singleton] at hq
      subst hq
      exact .inr (List.mem_append_right _ hx)
theorem SeenI.fin {ws rs : List Int} {S : List Nat} (h : SeenI ws rs S []) : ∀ p, p ∈ S ↔ Rch ws rs p := fun p =>
  ⟨h.just p, fun hp => hp.least (S := fun p => p ∈ S) (fun o ho hk => (h.roots o ho hk).resolve_right (by simp)) (fun q hq o ho hk => (h.held q hq o ho hk).resolve_right (by simp))⟩
theorem SeenI.few {ws rs xs : List Int} {S : List Nat} (hok : OkH ws) (hr : ∀ o ∈ rs, fitsB ws o = true) (h : SeenI ws rs S xs) : S.length ≤ (places ws).length :=
  len_le h.nodup fun p hp => (h.just p hp).pl hok hr
theorem holdsL_len {ws : List Int} {p : Nat} (hb : badB ws p = false) : (holdsL ws p).length ≤ 61 := by
  have := not_bad hb
  have hs := slotsL_len hb
  have hd : slotsN ws p = (nth ws (p + 2) / 4).toNat := rfl
  unfold holdsL
  split <;> simp <;> omega
theorem fits_bd {ws : List Int} {o : Int} (h : fitsB ws o = true) : -2147483647 ≤ o ∧ o ≤ 2147483647 := by
  unfold fitsB at h
  rw [Bool.or_eq_true, Bool.or_eq_true] at h
  rcases h with (h | h) | h
  · have := (isSmall_iff o).1 (by unfold isSmall; exact h)
    omega
  · have h2 : kd o = 2 := by simpa using h
    unfold kd at h2
    split at h2
    · omega
    · split at h2
      · split at h2 <;> omega
      · split at h2 <;> omega
  · have := (kd_three o).1 (th_kd h)
    omega
theorem snoc_ex {xs : List Int} (h : 0 < xs.length) : ∃ ys o, xs = ys ++ [o] := by
  refine ⟨xs.dropLast, xs.getLast (List.ne_nil_of_length_pos h), ?_⟩
  exact (List.dropLast_concat_getLast _).symm

end Go.Proofs.Ytjpppdacamhhfaa
