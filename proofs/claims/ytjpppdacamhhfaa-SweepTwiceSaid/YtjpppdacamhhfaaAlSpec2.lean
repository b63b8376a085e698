/- Two heaps held against each other, pair by pair: what holds after k pairs. Conditions: heaps that may be, roots that fit. -/
import Derived.Test.YtjpppdacamhhfaaAlkC
namespace Go.Proofs.Ytjpppdacamhhfaa
open Go.RowKit
set_option linter.unusedVariables false

theorem take_pre {ps ps' : List (Nat × Nat)} (h : ps <+: ps') {k : Nat} (hk : k ≤ ps.length) : ps'.take k = ps.take k := by
  obtain ⟨t, rfl⟩ := h
  rw [List.take_append_of_le_length hk]
structure AlkL (ws rs vs qs : List Int) (f g : Nat → Bool) (ps : List (Nat × Nat)) (k : Nat) : Prop where
  le : k ≤ ps.length
  roots : ∀ j, j < rs.length → RelP ps (nth rs j) (nth qs j)
  done : ∀ p ∈ ps.take k, MatchP ws vs ps p.1 p.2
  hash : alikeR ws rs f vs qs g = true → HashP ws vs ps
section
variable {ws rs vs qs : List Int} {f g : Nat → Bool} (hC : AlkC ws rs vs qs f g)
include hC
theorem AlkL.start (hl : rs.length = qs.length) (h : (alAll [] rs qs).1 = true) : AlkL ws rs vs qs f g (alAll [] rs qs).2 0 ∧ PairsI f g (alAll [] rs qs).2 := by
  have hro : ∀ o ∈ rs, kd o = 3 → f (pcl o) = true := fun o ho hk => (hC.tell _).2 (.root o ho hk)
  have hqo : ∀ o ∈ qs, kd o = 3 → g (pcl o) = true := fun o ho hk => (hC.tell' _).2 (.root o ho hk)
  refine ⟨⟨Nat.zero_le _, alAll_true hl h, fun p hp => by simp at hp, fun hA => ?_⟩, (PairsI.nil f g).all hro hqo⟩
  exact (alAll_A hC.ok hC.fit hC.tell hC.ok' hC.fit' hC.tell' (PairsI.nil f g) (fun x y h => by simp at h) hl (alike_roots hA)).2
theorem start_no (hl : rs.length = qs.length) (h : (alAll [] rs qs).1 = false) : alikeR ws rs f vs qs g = false := by
  cases hA : alikeR ws rs f vs qs g
  · rfl
  · have := (alAll_A hC.ok hC.fit hC.tell hC.ok' hC.fit' hC.tell' (PairsI.nil f g) (fun x y h => by simp at h) hl (alike_roots hA)).1
    rw [h] at this; cases this
omit hC in
theorem len_no (hl : rs.length ≠ qs.length) : alikeR ws rs f vs qs g = false := by
  cases hA : alikeR ws rs f vs qs g
  · rfl
  · exact absurd (alike_len hA) hl
omit hC in
theorem drop_head {ps : List (Nat × Nat)} {k : Nat} (h : k < ps.length) : ∃ x y, ps.drop k = (x, y) :: ps.drop (k + 1) ∧ (x, y) ∈ ps ∧ ps.take (k + 1) = ps.take k ++ [(x, y)] := by
  refine ⟨ps[k].1, ps[k].2, ?_, List.getElem_mem h, ?_⟩
  · rw [List.drop_eq_getElem_cons h]
  · rw [List.take_succ_eq_append_getElem h]
theorem AlkL.step {ps : List (Nat × Nat)} {k x y : Nat} (h : AlkL ws rs vs qs f g ps k) (hI : PairsI f g ps) (hk : k < ps.length) (hm : (x, y) ∈ ps) (ht : ps.take (k + 1) = ps.take k ++ [(x, y)]) (hr : (thP ws vs ps x y).1 = true) :
    AlkL ws rs vs qs f g (thP ws vs ps x y).2 (k + 1) := by
  have hp := thP_pre (ws := ws) (vs := vs) ps x y
  refine ⟨Nat.le_trans hk hp.length_le, fun j hj => (h.roots j hj).mono hp, fun p hpm => ?_, fun hA => (thP_A hC.ok hC.fit hC.tell hC.ok' hC.fit' hC.tell' hA hI (h.hash hA) hm).2⟩
  rw [take_pre hp hk, ht] at hpm
  rcases List.mem_append.1 hpm with hpm | hpm
  · exact (h.done p hpm).mono hp
  · rw [List.mem_singleton] at hpm
    subst hpm
    exact thP_true hC.ok hC.fit hC.tell hC.ok' hC.fit' hC.tell' hI hm hr
theorem AlkL.no {ps : List (Nat × Nat)} {k x y : Nat} (h : AlkL ws rs vs qs f g ps k) (hI : PairsI f g ps) (hm : (x, y) ∈ ps) (hr : (thP ws vs ps x y).1 = false) : alikeR ws rs f vs qs g = false := by
  cases hA : alikeR ws rs f vs qs g
  · rfl
  · have := (thP_A hC.ok hC.fit hC.tell hC.ok' hC.fit' hC.tell' hA hI (h.hash hA) hm).1
    rw [hr] at this; cases this
omit hC in
theorem AlkL.all {ps : List (Nat × Nat)} {k : Nat} (h : AlkL ws rs vs qs f g ps k) (hk : ps.length ≤ k) : ∀ x y, (x, y) ∈ ps → MatchP ws vs ps x y := fun x y hm => h.done (x, y) (by rw [List.take_of_length_le hk]; exact hm)
/-- The second loop's stop. -/
theorem weak_no {ps : List (Nat × Nat)} {k x y : Nat} (h : AlkL ws rs vs qs f g ps k) (hI : PairsI f g ps) (hm : (x, y) ∈ ps) (h2 : formOf ws x = 2) (hr : weakQ ws vs f g ps x y = false) : alikeR ws rs f vs qs g = false := by
  cases hA : alikeR ws rs f vs qs g
  · rfl
  · have := weakQ_A hC.ok hC.fit hC.tell hC.ok' hC.fit' hC.tell' hA hI (h.hash hA) hm h2
    rw [hr] at this; cases this
theorem AlkL.end_ {ps : List (Nat × Nat)} {k : Nat} (h : AlkL ws rs vs qs f g ps k) (hI : PairsI f g ps) (hk : ps.length ≤ k) (hl : rs.length = qs.length)
    (hw : ∀ x y, (x, y) ∈ ps → formOf ws x = 2 → weakQ ws vs f g ps x y = true) : alikeR ws rs f vs qs g = true := by
  have hall := h.all hk
  have hdom : ∀ p, f p = true → p ∈ ps.map Prod.fst := fun p hp => match_dom hC.ok hC.fit hC.tell hI h.roots hall hp
  exact alike_true hC.ok hC.fit hC.tell hC.ok' hC.fit' hC.tell' hI hl h.roots hall (fun x y hm h2 => weakQ_true hC.ok hC.fit hC.tell hC.ok' hC.fit' hC.tell' hI hdom hm (hall x y hm).head (hw x y hm h2))
/-- Nothing is given anew by weak slots. -/
theorem weak_stay {ps : List (Nat × Nat)} {k : Nat} (h : AlkL ws rs vs qs f g ps k) (hI : PairsI f g ps) (hk : ps.length ≤ k) (o q : Int) : (alP ps (weakO f o) (weakO g q)).2 = ps :=
  alP_stay (fun hk' => match_dom hC.ok hC.fit hC.tell hI h.roots (h.all hk) (weakO_rch f o hk'))
end
theorem toM_inv {ps : List (Nat × Nat)} {k : Int} {v : Value} (h : toM ps k = some v) : ∃ x y : Nat, k = x ∧ v = .int .i64 (y : Int) ∧ (x, y) ∈ ps := by
  unfold toM at h
  split at h
  · rename_i h0
    cases hf : ps.find? (fun p => p.1 == k.toNat) with
    | none => rw [hf] at h; cases h
    | some p =>
      rw [hf] at h
      obtain ⟨a, b⟩ := p
      have h1 := List.find?_some hf
      have h2 := List.mem_of_find?_eq_some hf
      simp at h1 h
      subst h1
      exact ⟨k.toNat, b, by omega, h.symm, h2⟩
  · cases h
end Go.Proofs.Ytjpppdacamhhfaa
