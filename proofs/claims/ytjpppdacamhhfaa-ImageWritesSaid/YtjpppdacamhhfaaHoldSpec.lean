/- Plain laws: what is laid holds numbers of 64 bits; its roots are right. Conditions: none. -/
import Derived.Test.YtjpppdacamhhfaaSSpec
import Derived.Test.YtjpppdacamhhfaaRoots
namespace Go.Proofs.Ytjpppdacamhhfaa
set_option linter.unusedVariables false

theorem i64_all {xs : List Int} (h : ∀ x ∈ xs, -9223372036854775808 ≤ x ∧ x ≤ 9223372036854775807) : I64 xs := fun j => by
  rcases Nat.lt_or_ge j xs.length with hl | hl
  · rw [nth_eq hl]; exact h _ (List.getElem_mem _)
  · rw [nth_out hl]; omega
theorem badRoot_all {ws rs : List Int} : ∀ (n i : Nat), (∀ j, j < n → fitsB ws (nth rs (i + j)) = true) → badRoot ws rs n i = none
  | 0, _, _ => rfl
  | n + 1, i, h => by
    unfold badRoot
    have h0 := h 0 (by omega)
    rw [Nat.add_zero] at h0
    rw [if_pos h0]
    exact badRoot_all n (i + 1) fun j hj => by
      have := h (j + 1) (by omega)
      rwa [show i + 1 + j = i + (j + 1) from by omega]
theorem roots_ok {ws rs : List Int} (hok : OkH ws) (hr : ∀ o ∈ rs, fitsB ws o = true) : rootsF ws rs = (0, 0) := by
  refine rootsF_ok (okB_iff.2 hok) ?_
  unfold brFrom
  exact badRoot_all _ _ fun j hj => hr _ (by rw [Nat.zero_add, nth_eq (by omega)]; exact List.getElem_mem _)

section
variable {ws rs : List Int} {ord : List Nat} (hw : I64 ws) (hok : OkH ws) (hr : ∀ o ∈ rs, fitsB ws o = true) (ho : OrdOf ws rs ord)
include hok hr ho
theorem arr_small : ∀ p, toO ws ord p ≤ 100000 := fun p => by
  by_cases hp : p ∈ ord
  · have := to_bd hok hr ho hp; omega
  · rw [to_out hp]; omega
theorem arr_now_bd {o : Int} (h : fitsB ws o = true) : -9223372036854775808 ≤ nowO (toO ws ord) o ∧ nowO (toO ws ord) o ≤ 9223372036854775807 := by
  have h1 := fits_bd h
  have h2 := arr_small hok hr ho (pcl o)
  unfold nowO
  split <;> omega
include hw
theorem arr_i64 : I64 (arrW ws ord) := by
  refine i64_all fun x hx => ?_
  unfold arrW laidO at hx
  rcases List.mem_append.1 hx with hx | hx
  · simp only [List.mem_cons, List.not_mem_nil, or_false] at hx
    rcases hx with rfl | rfl
    · exact hw 0
    · exact hw 1
  · obtain ⟨p, hp, hx⟩ := List.mem_flatMap.1 hx
    have hpl := ord_pl hok hr ho hp
    have hb := (places_mem hpl).2.2
    unfold thingO at hx
    simp only [List.mem_cons] at hx
    rcases hx with rfl | rfl | rfl | hx
    · exact arr_now_bd hok hr ho (class_fits hok hpl)
    · exact hw _
    · exact hw _
    · split at hx
      · obtain ⟨k, hk, rfl⟩ := (slotsL_mem hb).1 hx
        exact hw _
      · rename_i hf
        obtain ⟨y, hy, rfl⟩ := List.mem_map.1 hx
        obtain ⟨k, hk, rfl⟩ := (slotsL_mem hb).1 hy
        exact arr_now_bd hok hr ho (slot_fits hok hpl hf hk)
end
theorem arrR_i64 {ws rs : List Int} {ord : List Nat} (hok : OkH ws) (hr : ∀ o ∈ rs, fitsB ws o = true) (ho : OrdOf ws rs ord) : I64 (arrR ws rs ord) := by
  refine i64_all fun x hx => ?_
  obtain ⟨y, hy, rfl⟩ := List.mem_map.1 hx
  exact arr_now_bd hok hr ho (hr y hy)
theorem arrR_len (ws rs : List Int) (ord : List Nat) : (arrR ws rs ord).length = rs.length := by unfold arrR; simp

end Go.Proofs.Ytjpppdacamhhfaa
