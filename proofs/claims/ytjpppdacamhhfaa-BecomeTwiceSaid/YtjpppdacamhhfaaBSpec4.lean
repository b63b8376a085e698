/- Plain laws: all things' references turned, place by place; turned twice by a map that is its own back. No program in sight. Conditions: none. -/
import Derived.Test.YtjpppdacamhhfaaBSpec3
namespace Go.Proofs.Ytjpppdacamhhfaa
set_option linter.unusedVariables false

/-- Is j a place of a reference of the thing at p? -/
def RefAt (ws : List Int) (p j : Nat) : Prop := j = p ∨ (formOf ws p ≠ 1 ∧ p + 3 ≤ j ∧ j < nxt ws p)
theorem stepX_yes {h : Int → Int} {ws xs : List Int} {p j : Nat} (hj : j < xs.length) (hr : RefAt ws p j) : nth (stepX h ws xs p) j = h (nth xs j) := by
  have hn : nxt ws p = p + 3 + slotsN ws p := rfl
  unfold stepX
  split
  · rename_i hf
    rcases hr with rfl | ⟨h1, _⟩
    · rw [mapSeg_nth hj, if_pos (by omega)]
    · exact absurd hf h1
  · rw [mapSeg_nth (by rw [mapSeg_len]; exact hj), mapSeg_nth hj]
    rcases hr with rfl | ⟨_, h1, h2⟩
    · rw [if_neg (by omega), if_pos (by omega)]
    · rw [if_pos (by omega), if_neg (by omega)]
theorem stepX_no {h : Int → Int} {ws xs : List Int} {p j : Nat} (hj : j < xs.length) (hr : ¬ RefAt ws p j) : nth (stepX h ws xs p) j = nth xs j := by
  have hn : nxt ws p = p + 3 + slotsN ws p := rfl
  have h0 : j ≠ p := fun e => hr (.inl e)
  unfold stepX
  split
  · rw [mapSeg_nth hj, if_neg (by omega)]
  · rename_i hf
    rw [mapSeg_nth (by rw [mapSeg_len]; exact hj), mapSeg_nth hj, if_neg, if_neg (by omega)]
    rintro ⟨h1, h2⟩
    exact hr (.inr ⟨hf, h1, by omega⟩)
theorem fold_no {h : Int → Int} {ws : List Int} {j : Nat} : ∀ (ps : List Nat) (xs : List Int), j < xs.length → (∀ p ∈ ps, ¬ RefAt ws p j) → nth (ps.foldl (stepX h ws) xs) j = nth xs j
  | [], _, _, _ => rfl
  | p :: ps, xs, hj, hr => by
    rw [List.foldl_cons, fold_no ps _ (by rw [stepX_len]; exact hj) (fun q hq => hr q (List.mem_cons_of_mem _ hq)), stepX_no hj (hr p List.mem_cons_self)]
theorem fold_yes {h : Int → Int} {ws : List Int} {j p : Nat} (hp : RefAt ws p j) : ∀ (ps : List Nat) (xs : List Int), j < xs.length → p ∈ ps → ps.Nodup → (∀ q ∈ ps, q ≠ p → ¬ RefAt ws q j) → nth (ps.foldl (stepX h ws) xs) j = h (nth xs j)
  | [], _, _, hm, _, _ => absurd hm (by simp)
  | q :: ps, xs, hj, hm, hn, hr => by
    rw [List.foldl_cons]
    have hn' := List.nodup_cons.1 hn
    by_cases e : q = p
    · subst e
      rw [fold_no ps _ (by rw [stepX_len]; exact hj) (fun r hr' => hr r (List.mem_cons_of_mem _ hr') (fun e => hn'.1 (e ▸ hr'))), stepX_yes hj hp]
    · rcases List.mem_cons.1 hm with h1 | h1
      · exact absurd h1.symm e
      · rw [fold_yes hp ps _ (by rw [stepX_len]; exact hj) h1 hn'.2 (fun r hr' => hr r (List.mem_cons_of_mem _ hr')), stepX_no hj (hr q List.mem_cons_self e)]
theorem ref_one {ws : List Int} {p q j : Nat} (hp : p ∈ places ws) (hq : q ∈ places ws) (h1 : RefAt ws p j) (h2 : RefAt ws q j) : q = p := by
  have g1 := nxt_gt ws p
  have g2 := nxt_gt ws q
  have e1 : p ≤ j ∧ j < nxt ws p := by rcases h1 with rfl | ⟨_, h1, h2⟩ <;> omega
  have e2 : q ≤ j ∧ j < nxt ws q := by rcases h2 with rfl | ⟨_, h1, h2⟩ <;> omega
  rcases places_part hp hq with e | e | e <;> omega
theorem exch_yes {h : Int → Int} {ws : List Int} {p j : Nat} (hj : j < ws.length) (hp : p ∈ places ws) (hr : RefAt ws p j) : nth (exchF h ws (places ws)) j = h (nth ws j) :=
  fold_yes hr _ _ hj hp (places_nodup ws) (fun q hq hne h2 => hne (ref_one hp hq hr h2))
theorem exch_no {h : Int → Int} {ws : List Int} {j : Nat} (hj : j < ws.length) (hr : ∀ p ∈ places ws, ¬ RefAt ws p j) : nth (exchF h ws (places ws)) j = nth ws j :=
  fold_no _ _ hj hr
theorem exch_head {h : Int → Int} {ws : List Int} {q i : Nat} (hq : q ∈ places ws) (hi1 : 0 < i) (hi : i < 3) (hl : q + i < ws.length) : nth (exchF h ws (places ws)) (q + i) = nth ws (q + i) := by
  refine exch_no hl fun p hp hr => ?_
  have g1 := nxt_gt ws p
  have g2 := nxt_gt ws q
  have hn : nxt ws q = q + 3 + slotsN ws q := rfl
  rcases hr with h1 | ⟨_, h1, h2⟩
  · rcases places_part hp hq with e | e | e <;> omega
  · rcases places_part hp hq with e | e | e <;> omega
theorem exch_low {h : Int → Int} {ws : List Int} {j : Nat} (hj : j < 2) (hl : j < ws.length) : nth (exchF h ws (places ws)) j = nth ws j := by
  refine exch_no hl fun p hp hr => ?_
  have := (places_mem hp).1
  rcases hr with h1 | ⟨_, h1, h2⟩ <;> omega
theorem exch_places {h : Int → Int} {ws : List Int} (hb : bad1 ws = none) : places (exchF h ws (places ws)) = places ws ∧ bad1 (exchF h ws (places ws)) = none :=
  places_congr (exchF_len _ _ _) hb (fun q hq => exch_head hq (by omega) (by omega) (by have := not_bad (places_mem hq).2.2; omega))
theorem exch_twice {h : Int → Int} {ws : List Int} (hb : bad1 ws = none) (hh : ∀ o, h (h o) = o) : exchF h (exchF h ws (places ws)) (places (exchF h ws (places ws))) = ws := by
  obtain ⟨hp, _⟩ := exch_places (h := h) hb
  have hl : (exchF h ws (places ws)).length = ws.length := exchF_len _ _ _
  have hR : ∀ p ∈ places ws, ∀ j, RefAt (exchF h ws (places ws)) p j ↔ RefAt ws p j := fun p hq j => by
    have e := exch_head (h := h) hq (i := 2) (by omega) (by omega) (by have := not_bad (places_mem hq).2.2; omega)
    unfold RefAt nxt formOf slotsN
    rw [e]
  refine list_ext_nth (by rw [exchF_len, hl]) fun j hj => ?_
  rw [exchF_len, hl] at hj
  by_cases hx : ∃ p, p ∈ places ws ∧ RefAt ws p j
  · obtain ⟨p, hq, hr⟩ := hx
    rw [exch_yes (by rw [hl]; exact hj) (by rw [hp]; exact hq) ((hR p hq j).2 hr), exch_yes hj hq hr, hh]
  · rw [exch_no (by rw [hl]; exact hj) (fun p hq hr => hx ⟨p, by rw [hp] at hq; exact hq, (hR p (by rw [hp] at hq; exact hq) j).1 hr⟩), exch_no hj (fun p hq hr => hx ⟨p, hq, hr⟩)]
end Go.Proofs.Ytjpppdacamhhfaa
