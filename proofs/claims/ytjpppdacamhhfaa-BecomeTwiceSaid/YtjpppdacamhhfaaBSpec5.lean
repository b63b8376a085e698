/- Plain laws: what became, both ways, may be, and is turned back by the same lists. No program in sight. Conditions: none. -/
import Derived.Test.YtjpppdacamhhfaaBSpec4
import Derived.Test.YtjpppdacamhhfaaDone
namespace Go.Proofs.Ytjpppdacamhhfaa
set_option linter.unusedVariables false

theorem isTh_zero (ws : List Int) : isTh ws 0 = false := by
  cases h : isTh ws 0
  · rfl
  · have := isTh_mem h; omega
section
variable {h : Int → Int} {ws : List Int} (hT : ∀ o, isTh ws o = true → isTh ws (h o) = true) (hN : ∀ o, isTh ws o = false → h o = o)
include hT hN
theorem fits_turned {o : Int} (ho : fitsB ws o = true) : fitsB ws (h o) = true := by
  cases ht : isTh ws o
  · rw [hN o ht]; exact ho
  · unfold fitsB; rw [hT o ht]; simp
theorem exch_ok (hok : OkH ws) : OkH (exchF h ws (places ws)) := by
  obtain ⟨hp, hb⟩ := exch_places (h := h) hok.bad
  have hl : (exchF h ws (places ws)).length = ws.length := exchF_len _ _ _
  have h2 := hok.two
  have hd : ∀ q ∈ places ws, ∀ i, 0 < i → i < 3 → nth (exchF h ws (places ws)) (q + i) = nth ws (q + i) := fun q hq i h1 h3 => exch_head hq h1 h3 (by have := not_bad (places_mem hq).2.2; omega)
  have w1 : nth (exchF h ws (places ws)) 1 = nth ws 1 := exch_low (by omega) (by omega)
  refine ⟨by omega, by rw [hl]; exact hok.most, by rw [exch_low (by omega) (by omega)]; exact hok.w0, by rw [w1]; exact hok.w1, by rw [w1]; exact hok.w1m, hb, ?_, ?_⟩
  · intro p hpm
    rw [hp] at hpm
    have hO := hok.things p hpm
    have hnb := not_bad (places_mem hpm).2.2
    have hnx := nxt_le (places_mem hpm).2.2
    have hn : nxt ws p = p + 3 + slotsN ws p := rfl
    have hf : formOf (exchF h ws (places ws)) p = formOf ws p := by unfold formOf; rw [hd p hpm 2 (by omega) (by omega)]
    have hs : slotsN (exchF h ws (places ws)) p = slotsN ws p := by unfold slotsN; rw [hd p hpm 2 (by omega) (by omega)]
    refine ⟨?_, ?_, ?_, ?_⟩
    · rw [exch_yes (by omega) hpm (.inl rfl), isTh_congr hp]
      rcases hO.class_ with h0 | h0
      · rw [h0, hN 0 (isTh_zero ws)]; exact .inl rfl
      · exact .inr (hT _ h0)
    · rw [hd p hpm 1 (by omega) (by omega)]; exact hO.hash1
    · rw [hd p hpm 1 (by omega) (by omega), w1]; exact hO.hash2
    · intro k hk
      rw [hs] at hk
      have hst := hO.slots k hk
      rw [hf, standsB_congr hp]
      by_cases hf1 : formOf ws p = 1
      · rw [exch_no (by omega)]
        · exact hst
        · intro q hq hr
          have g1 := nxt_gt ws p
          have g2 := nxt_gt ws q
          have e2 : q ≤ p + 3 + k ∧ p + 3 + k < nxt ws q := by rcases hr with h1 | ⟨_, h1, h2⟩ <;> omega
          have e : q = p := by rcases places_part hpm hq with e | e | e <;> omega
          subst e
          rcases hr with h1 | ⟨h1, _⟩
          · omega
          · exact h1 hf1
      · rw [exch_yes (by omega) hpm (.inr ⟨hf1, by omega, by omega⟩)]
        unfold standsB at hst ⊢
        rw [if_neg hf1] at hst ⊢
        exact fits_turned hT hN hst
  · rw [hp]
    have e : ((places ws).map fun p => nth (exchF h ws (places ws)) (p + 1)) = (places ws).map fun p => nth ws (p + 1) := List.map_congr_left (fun p hpm => hd p hpm 1 (by omega) (by omega))
    rw [e]
    exact hok.hashes
end

theorem badPair_none {ws fr ot : List Int} : ∀ (n i : Nat), badPair ws fr ot n i = none → ∀ j, j < n → pairB ws fr ot (i + j) = true
  | 0, _, _, _, h => absurd h (Nat.not_lt_zero _)
  | n + 1, i, h, j, hj => by
    unfold badPair at h
    split at h
    · rename_i hs
      cases j with
      | zero => simpa using hs
      | succ j =>
        have := badPair_none n (i + 1) h j (by omega)
        rwa [show i + (j + 1) = i + 1 + j from by omega]
    · cases h
theorem bp_none {ws fr ot : List Int} (h : bpFrom ws fr ot 0 = none) : ∀ j, j < fr.length → isTh ws (nth fr j) = true ∧ isTh ws (nth ot j) = true := fun j hj => by
  have := badPair_none _ 0 h j (by simpa using hj)
  rw [Nat.zero_add] at this
  unfold pairB at this
  simpa using this
theorem other_th {ws fr ot : List Int} (h : bpFrom ws fr ot 0 = none) (both : Bool) (o : Int) (ho : isTh ws o = true) : isTh ws (other fr ot both o) = true := by
  have hb := bp_none h
  unfold other
  suffices H : ∀ n i, i + n ≤ fr.length → isTh ws (otherF fr ot both o n i) = true from H _ _ (by omega)
  intro n
  induction n with
  | zero => intro i _; exact ho
  | succ n ih =>
    intro i hi
    unfold otherF
    split
    · exact (hb i (by omega)).2
    · split
      · exact (hb i (by omega)).1
      · exact ih (i + 1) (by omega)
theorem other_no {ws fr ot : List Int} (h : bpFrom ws fr ot 0 = none) (both : Bool) (o : Int) (ho : isTh ws o = false) : other fr ot both o = o := by
  refine other_none ?_
  rintro ⟨k, hk, h1 | ⟨_, h1⟩⟩
  · have := (bp_none h k hk).1; rw [h1, ho] at this; cases this
  · have := (bp_none h k hk).2; rw [h1, ho] at this; cases this
theorem wrongF_pairs {ws fr ot : List Int} {both : Bool} (h : (wrongF ws fr ot both).1 = 0) : bpFrom ws fr ot 0 = none := by
  unfold wrongF at h
  split at h
  · cases h
  · split at h
    · cases h
    · assumption
theorem bpFrom_congr {ws ws' fr ot : List Int} (h : places ws' = places ws) : bpFrom ws' fr ot 0 = bpFrom ws fr ot 0 := by
  have e : ∀ i, pairB ws' fr ot i = pairB ws fr ot i := fun i => by unfold pairB; rw [isTh_congr h, isTh_congr h]
  unfold bpFrom
  generalize fr.length - 0 = n
  suffices H : ∀ n i, badPair ws' fr ot n i = badPair ws fr ot n i from H n 0
  intro n
  induction n with
  | zero => intro i; rfl
  | succ n ih => intro i; unfold badPair; rw [e i, ih]
theorem badRoot_fits {ws rs : List Int} (h : ∀ o ∈ rs, fitsB ws o = true) : brFrom ws rs 0 = none := by
  unfold brFrom
  suffices H : ∀ n i, i + n ≤ rs.length → badRoot ws rs n i = none from H _ _ (by omega)
  intro n
  induction n with
  | zero => intro i _; rfl
  | succ n ih =>
    intro i hi
    unfold badRoot
    rw [if_pos, ih (i + 1) (by omega)]
    rw [nth_eq (by omega)]
    exact h _ (List.getElem_mem _)
/-- Both ways, done twice: no fault, and all is as it was. -/
theorem bec_twice {ws rs fr ot : List Int} (h : (becF ws rs fr ot true).1 = 0) :
    becF (becR ws rs fr ot true).1 (becR ws rs fr ot true).2 fr ot true = (0, 0) ∧ becR (becR ws rs fr ot true).1 (becR ws rs fr ot true).2 fr ot true = (ws, rs) ∧ OkH (becR ws rs fr ot true).1 := by
  have hr : (rootsF ws rs).1 = 0 := by
    by_cases h1 : (rootsF ws rs).1 = 0
    · exact h1
    · unfold becF at h; rw [if_neg h1] at h; exact absurd h h1
  have hw : (wrongF ws fr ot true).1 = 0 := by unfold becF at h; rw [if_pos hr] at h; exact h
  obtain ⟨hlen, hbt, _⟩ := wrongF_zero hw
  have hbp := wrongF_pairs hw
  obtain ⟨hok, _, _, hfit, _⟩ := rootsF_zero hr
  have hT := fun o => other_th (o := o) hbp true
  have hN := fun o => other_no (o := o) hbp true
  have hR : becR ws rs fr ot true = (exchF (other fr ot true) ws (places ws), rs.map (other fr ot true)) := by unfold becR; rw [if_pos h]
  rw [hR]
  have hK := exch_ok hT hN hok
  obtain ⟨hp, _⟩ := exch_places (h := other fr ot true) hok.bad
  have hrK : rootsF (exchF (other fr ot true) ws (places ws)) (rs.map (other fr ot true)) = (0, 0) := rootsF_ok (okB_iff.2 hK) (badRoot_fits (fun o ho => by
    obtain ⟨x, hx, rfl⟩ := List.mem_map.1 ho
    rw [fitsB_congr hp]
    exact fits_turned hT hN (hfit x hx)))
  have hwK : wrongF (exchF (other fr ot true) ws (places ws)) fr ot true = (0, 0) := wrongF_ok hlen ((bpFrom_congr hp).trans hbp) hbt
  have hF : becF (exchF (other fr ot true) ws (places ws)) (rs.map (other fr ot true)) fr ot true = (0, 0) := by unfold becF; rw [if_pos (by rw [hrK]), hwK]
  refine ⟨hF, ?_, hK⟩
  unfold becR
  rw [if_pos (by rw [hF]), exch_twice hok.bad (other_twice hbt), List.map_map]
  have e : (other fr ot true ∘ other fr ot true) = id := funext (other_twice hbt)
  rw [e, List.map_id]
end Go.Proofs.Ytjpppdacamhhfaa
