/- Plain laws: heaps that may be stay so when a slot is changed, a thing is made. No program in sight. Conditions: none. -/
import Derived.Test.YtjpppdacamhhfaaHSpec3
namespace Go.Proofs.Ytjpppdacamhhfaa
set_option linter.unusedVariables false

theorem nth_app_left {xs ys : List Int} {j : Nat} (h : j < xs.length) : nth (xs ++ ys) j = nth xs j := by
  unfold nth; simp [List.getElem?_append_left h]
theorem nth_app_right {xs ys : List Int} {j : Nat} (h : xs.length ≤ j) : nth (xs ++ ys) j = nth ys (j - xs.length) := by
  unfold nth; simp [List.getElem?_append_right h]
theorem nth_set_ {xs : List Int} {i j : Nat} {v : Int} : nth (xs.set i v) j = if i = j ∧ i < xs.length then v else nth xs j := by
  unfold nth
  by_cases h : i = j
  · subst h
    by_cases hl : i < xs.length
    · simp [hl]
    · simp [hl]
  · simp [h]
theorem nth_set_ne {xs : List Int} {i j : Nat} {v : Int} (h : i ≠ j) : nth (xs.set i v) j = nth xs j := by rw [nth_set_, if_neg (fun e => h e.1)]
theorem nth_set_eq {xs : List Int} {i : Nat} {v : Int} (h : i < xs.length) : nth (xs.set i v) i = v := by rw [nth_set_, if_pos ⟨rfl, h⟩]
theorem nth_replicate {n j : Nat} : nth (List.replicate n 0) j = 0 := by
  unfold nth
  by_cases h : j < n <;> simp [List.getD, h]

/-- Things lie one behind the other. -/
theorem placesFrom_chain (ws : List Int) : ∀ (f s : Nat), (placesFrom ws f s).Pairwise (fun a b => nxt ws a ≤ b)
  | 0, _ => by simp [placesFrom]
  | f + 1, s => by
    unfold placesFrom
    split
    · rw [List.pairwise_cons]
      exact ⟨fun q hq => (placesFrom_mem ws f _ q hq).1, placesFrom_chain ws f _⟩
    · simp
theorem places_chain (ws : List Int) : (places ws).Pairwise (fun a b => nxt ws a ≤ b) := placesFrom_chain ws _ _
theorem places_part {ws : List Int} {p q : Nat} (hp : p ∈ places ws) (hq : q ∈ places ws) : p = q ∨ nxt ws p ≤ q ∨ nxt ws q ≤ p := by
  obtain ⟨i, hi, rfl⟩ := List.getElem_of_mem hp
  obtain ⟨j, hj, rfl⟩ := List.getElem_of_mem hq
  have h := List.pairwise_iff_getElem.1 (places_chain ws)
  rcases Nat.lt_trichotomy i j with hl | rfl | hl
  · exact .inr (.inl (h i j hi hj hl))
  · exact .inl rfl
  · exact .inr (.inr (h j i hj hi hl))
theorem places_nodup (ws : List Int) : (places ws).Nodup := by
  refine (places_chain ws).imp ?_
  intro a b h e
  subst e
  have := nxt_gt ws a
  omega
theorem nxt_le {ws : List Int} {p : Nat} (h : badB ws p = false) : nxt ws p ≤ ws.length := by
  have := not_bad h
  unfold nxt slotsN; omega

/-- What has the same sizes at the same places has its things there. -/
theorem placesFrom_congr {ws ws' : List Int} (hl : ws'.length = ws.length) : ∀ (f p : Nat), firstBad ws f p = none → (∀ q ∈ placesFrom ws f p, nth ws' (q + 2) = nth ws (q + 2)) →
    placesFrom ws' f p = placesFrom ws f p ∧ firstBad ws' f p = none
  | 0, _, _, _ => by simp [placesFrom, firstBad]
  | f + 1, p, hb, h => by
    unfold firstBad at hb
    unfold placesFrom at h
    unfold placesFrom firstBad
    by_cases hp : p < ws.length
    · rw [if_pos hp] at hb
      cases hbd : badB ws p
      · rw [hbd] at hb
        rw [if_pos ⟨hp, hbd⟩] at h
        have e := h p (List.mem_cons_self)
        have hb' : badB ws' p = false := by unfold badB at hbd ⊢; rw [hl, e]; exact hbd
        have hn : nxt ws' p = nxt ws p := by unfold nxt slotsN; rw [e]
        obtain ⟨r1, r2⟩ := placesFrom_congr hl f (nxt ws p) (by simpa using hb) (fun q hq => h q (List.mem_cons_of_mem _ hq))
        have hp' : p < ws'.length := by rw [hl]; exact hp
        rw [if_pos ⟨hp', hb'⟩, if_pos ⟨hp, rfl⟩, if_pos hp', if_neg (by rw [hb']; decide), hn]
        exact ⟨by rw [r1], r2⟩
      · rw [hbd] at hb; simp at hb
    · rw [if_neg (by rw [hl]; omega), if_neg (by omega), if_neg (by rw [hl]; omega)]
      exact ⟨rfl, rfl⟩
theorem places_congr {ws ws' : List Int} (hl : ws'.length = ws.length) (hb : bad1 ws = none) (h : ∀ q ∈ places ws, nth ws' (q + 2) = nth ws (q + 2)) : places ws' = places ws ∧ bad1 ws' = none := by
  unfold places bad1 at *
  rw [hl]
  exact placesFrom_congr hl _ _ hb h

theorem badFrom_none' {ws : List Int} {p : Nat} (h : badFrom ws p = none) (hp : p < ws.length) : badB ws p = false ∧ badFrom ws (nxt ws p) = none := badFrom_none h hp
theorem isPl_congr {ws ws' : List Int} (h : places ws' = places ws) (q : Nat) : isPl ws' q = isPl ws q := by unfold isPl; rw [h]
theorem isTh_congr {ws ws' : List Int} (h : places ws' = places ws) (o : Int) : isTh ws' o = isTh ws o := by unfold isTh; rw [isPl_congr h]
theorem fitsB_congr {ws ws' : List Int} (h : places ws' = places ws) (o : Int) : fitsB ws' o = fitsB ws o := by unfold fitsB; rw [isTh_congr h]
theorem standsB_congr {ws ws' : List Int} (h : places ws' = places ws) (f o : Int) : standsB ws' f o = standsB ws f o := by unfold standsB; rw [fitsB_congr h]

theorem isTh_mem {ws : List Int} {x : Int} (h : isTh ws x = true) : (x / 2).toNat ∈ places ws ∧ x = 2 * ((x / 2).toNat : Int) ∧ 4 ≤ x ∧ x ≤ 3998 := by
  unfold isTh at h
  simp only [Bool.and_eq_true, beq_iff_eq] at h
  have hk := (kd_three x).1 h.1
  exact ⟨by simpa [isPl] using h.2, by omega, by omega, by omega⟩
theorem isTh_of {ws : List Int} {p : Nat} (h : p ∈ places ws) (hl : ws.length ≤ 2000) : isTh ws (2 * (p : Int)) = true := by
  have hm := places_mem h
  unfold isTh
  rw [Bool.and_eq_true]
  have hnb := not_bad hm.2.2
  refine ⟨by rw [beq_iff_eq, kd_three]; omega, ?_⟩
  rw [show ((2 * (p : Int)) / 2).toNat = p from by omega]
  simpa [isPl] using h

/-- A slot of a thing is no head of one. -/
theorem slot_ne {ws : List Int} {p q k i : Nat} (hp : p ∈ places ws) (hq : q ∈ places ws) (hk : k < slotsN ws p) (hi : i < 3) : p + 3 + k ≠ q + i := by
  have hn : nxt ws p = p + 3 + slotsN ws p := rfl
  have hg := nxt_gt ws q
  rcases places_part hp hq with rfl | h | h <;> omega
theorem slot_inj {ws : List Int} {p q k j : Nat} (hp : p ∈ places ws) (hq : q ∈ places ws) (hk : k < slotsN ws p) (hj : j < slotsN ws q) (e : p + 3 + k = q + 3 + j) : p = q ∧ k = j := by
  have hn : nxt ws p = p + 3 + slotsN ws p := rfl
  have hn' : nxt ws q = q + 3 + slotsN ws q := rfl
  rcases places_part hp hq with rfl | h | h
  · exact ⟨rfl, by omega⟩
  · omega
  · omega

theorem putE_zero {ws : List Int} {x at_ what : Int} (h : putE ws x at_ what = 0) : isTh ws x = true ∧ 0 ≤ at_ ∧ at_ < (slotsN ws (x / 2).toNat : Int) ∧ standsB ws (formOf ws (x / 2).toNat) what = true := by
  unfold putE at h
  split at h
  · cases h
  · rename_i h1
    split at h
    · cases h
    · rename_i h2
      split at h
      · cases h
      · rename_i h3
        exact ⟨by simpa using h1, by omega, by omega, by simpa using h3⟩

theorem put_ok {ws : List Int} {x at_ what : Int} (hok : OkH ws) (h : putE ws x at_ what = 0) : OkH (putW ws x at_ what) ∧ places (putW ws x at_ what) = places ws := by
  obtain ⟨ht, h1, h2, h3⟩ := putE_zero h
  obtain ⟨hm, _⟩ := isTh_mem ht
  obtain ⟨k, rfl⟩ : ∃ k : Nat, at_ = k := ⟨at_.toNat, by omega⟩
  have hk : k < slotsN ws (x / 2).toNat := by omega
  unfold putW
  rw [Int.toNat_natCast]
  generalize (x / 2).toNat = p at *
  have hp := places_mem hm
  have hn := not_bad hp.2.2
  have hlen : (ws.set (p + 3 + k) what).length = ws.length := by simp
  have hhead : ∀ q ∈ places ws, ∀ i, i < 3 → nth (ws.set (p + 3 + k) what) (q + i) = nth ws (q + i) := fun q hq i hi => nth_set_ne (slot_ne hm hq hk hi)
  obtain ⟨hpl, hbd⟩ := places_congr hlen hok.bad (fun q hq => hhead q hq 2 (by omega))
  refine ⟨⟨by rw [hlen]; exact hok.two, by rw [hlen]; exact hok.most, by rw [nth_set_ne (by omega)]; exact hok.w0, by rw [nth_set_ne (by omega)]; exact hok.w1, by rw [nth_set_ne (by omega)]; exact hok.w1m, hbd, ?_, ?_⟩, hpl⟩
  · rw [hpl]
    intro q hq
    have ho := hok.things q hq
    have e0 : nth (ws.set (p + 3 + k) what) q = nth ws q := hhead q hq 0 (by omega)
    have e1 := hhead q hq 1 (by omega)
    have e2 := hhead q hq 2 (by omega)
    have hsn : slotsN (ws.set (p + 3 + k) what) q = slotsN ws q := by unfold slotsN; rw [e2]
    have hfm : formOf (ws.set (p + 3 + k) what) q = formOf ws q := by unfold formOf; rw [e2]
    refine ⟨by rw [e0, isTh_congr hpl]; exact ho.class_, by rw [e1]; exact ho.hash1, by rw [e1, nth_set_ne (by omega)]; exact ho.hash2, ?_⟩
    intro j hj
    rw [hsn] at hj
    rw [hfm, standsB_congr hpl]
    by_cases e : p + 3 + k = q + 3 + j
    · obtain ⟨rfl, rfl⟩ := slot_inj hm hq hk hj e
      have hlq := nxt_le hp.2.2
      have : nxt ws p = p + 3 + slotsN ws p := rfl
      rw [nth_set_eq (by omega)]; exact h3
    · rw [nth_set_ne e]; exact ho.slots j hj
  · rw [hpl]
    have : (places ws).map (fun q => nth (ws.set (p + 3 + k) what) (q + 1)) = (places ws).map (fun q => nth ws (q + 1)) := List.map_congr_left fun q hq => hhead q hq 1 (by omega)
    rw [this]; exact hok.hashes

/-! a thing more -/
section
variable {ws : List Int} {cl fm : Int} {k : Nat}

theorem newW_nth_lt (h2 : 2 ≤ ws.length) {j : Nat} (hj : j < ws.length) (h1 : j ≠ 1) : nth (newW ws cl fm k) j = nth ws j := by
  unfold newW
  rw [nth_app_left (by simp; omega), nth_app_left (by simpa using hj), nth_set_ne (fun e => h1 e.symm)]
theorem newW_nth_one (h2 : 2 ≤ ws.length) : nth (newW ws cl fm k) 1 = nth ws 1 + 1 := by
  unfold newW
  rw [nth_app_left (by simp), nth_app_left (by simp; omega), nth_set_eq (by omega)]
theorem newW_nth_new (i : Nat) (hi : i < 3) : nth (newW ws cl fm k) (ws.length + i) = nth [cl, nth ws 1, 4 * (k : Int) + fm] i := by
  unfold newW
  rw [nth_app_left (by simp; omega), nth_app_right (by simp)]
  simp
theorem newW_nth_slot (i : Nat) : nth (newW ws cl fm k) (ws.length + 3 + i) = 0 := by
  unfold newW
  rw [nth_app_right (by simp), nth_replicate]
theorem newW_len_ : (newW ws cl fm k).length = ws.length + 3 + k := by simp [newW]; omega

theorem plFrom_app (hok : OkH ws) : ∀ (f p : Nat), 2 ≤ p → p ≤ ws.length → ws.length ≤ p + f → badFrom ws p = none →
    plFrom (newW ws cl fm k) p = plFrom ws p ++ plFrom (newW ws cl fm k) ws.length ∧ (badFrom (newW ws cl fm k) ws.length = none → badFrom (newW ws cl fm k) p = none)
  | 0, p, _, h1, h2, _ => by
    obtain rfl : p = ws.length := by omega
    rw [plFrom_end (ws := ws) (Nat.le_refl _)]
    exact ⟨rfl, id⟩
  | f + 1, p, hp2, h1, h2, hb => by
    by_cases hp : p = ws.length
    · subst hp
      rw [plFrom_end (ws := ws) (Nat.le_refl _)]
      exact ⟨rfl, id⟩
    · have hp' : p < ws.length := by omega
      obtain ⟨hbd, hn⟩ := badFrom_none' hb hp'
      have hnb := not_bad hbd
      have e : nth (newW ws cl fm k) (p + 2) = nth ws (p + 2) := newW_nth_lt hok.two (by omega) (by omega)
      have hb' : badB (newW ws cl fm k) p = false := by
        unfold badB
        rw [newW_len_, e]
        simp only [Bool.or_eq_false_iff, decide_eq_false_iff_not]
        omega
      have hnx : nxt (newW ws cl fm k) p = nxt ws p := by unfold nxt slotsN; rw [e]
      have hg := nxt_gt ws p
      have hle := nxt_le hbd
      obtain ⟨r1, r2⟩ := plFrom_app hok f (nxt ws p) (by omega) hle (by omega) hn
      have hlt' : p < (newW ws cl fm k).length := by rw [newW_len_]; omega
      rw [plFrom_ok hlt' hb', plFrom_ok hp' hbd, hnx, r1]
      refine ⟨rfl, fun h => ?_⟩
      rw [badFrom_ok hlt' hb', hnx]
      exact r2 h
end

section
variable {ws : List Int} {cl fm : Int} {k : Nat}
theorem newE_zero {sz : Int} (h : newE ws cl fm sz = 0) : (cl = 0 ∨ isTh ws cl = true) ∧ 0 ≤ fm ∧ fm ≤ 2 ∧ 0 ≤ sz ∧ sz ≤ 60 ∧ ws.length + 3 + sz ≤ 2000 ∧ nth ws 1 ≤ 10000 := by
  unfold newE at h
  split at h
  · cases h
  · rename_i h1
    split at h
    · cases h
    · split at h
      · cases h
      · refine ⟨?_, by omega, by omega, by omega, by omega, by omega, by omega⟩
        cases hi : isTh ws cl
        · exact .inl (Classical.byContradiction fun hn => h1 ⟨hn, hi⟩)
        · exact .inr rfl

theorem new_head (hok : OkH ws) (h0 : 0 ≤ fm) (h2 : fm ≤ 2) (hk : k ≤ 60) :
    badB (newW ws cl fm k) ws.length = false ∧ nxt (newW ws cl fm k) ws.length = (newW ws cl fm k).length ∧ slotsN (newW ws cl fm k) ws.length = k ∧ formOf (newW ws cl fm k) ws.length = fm := by
  have e : nth (newW ws cl fm k) (ws.length + 2) = 4 * (k : Int) + fm := newW_nth_new 2 (by omega)
  refine ⟨?_, ?_, ?_, ?_⟩
  · unfold badB
    rw [newW_len_, e]
    simp only [Bool.or_eq_false_iff, decide_eq_false_iff_not]
    omega
  · unfold nxt slotsN
    rw [newW_len_, e]; omega
  · unfold slotsN; rw [e]; omega
  · unfold formOf; rw [e]; omega

theorem new_places (hok : OkH ws) (h0 : 0 ≤ fm) (h2 : fm ≤ 2) (hk : k ≤ 60) : places (newW ws cl fm k) = places ws ++ [ws.length] ∧ bad1 (newW ws cl fm k) = none := by
  obtain ⟨hb, hn, _, _⟩ := new_head (cl := cl) hok h0 h2 hk
  have hl : ws.length < (newW ws cl fm k).length := by rw [newW_len_]; omega
  have he : plFrom (newW ws cl fm k) ws.length = [ws.length] := by rw [plFrom_ok hl hb, hn, plFrom_end (Nat.le_refl _)]
  have hbe : badFrom (newW ws cl fm k) ws.length = none := by rw [badFrom_ok hl hb, hn, badFrom_end (Nat.le_refl _)]
  obtain ⟨r1, r2⟩ := plFrom_app (cl := cl) (fm := fm) (k := k) hok ws.length 2 (by omega) hok.two (by omega) hok.bad
  rw [he] at r1
  exact ⟨r1, r2 hbe⟩

theorem isTh_mono {ws ws' : List Int} (h : ∀ q ∈ places ws, q ∈ places ws') {o : Int} (ho : isTh ws o = true) : isTh ws' o = true := by
  unfold isTh isPl at *
  simp only [Bool.and_eq_true, List.contains_iff_mem] at *
  exact ⟨ho.1, h _ ho.2⟩
theorem fitsB_mono {ws ws' : List Int} (h : ∀ q ∈ places ws, q ∈ places ws') {o : Int} (ho : fitsB ws o = true) : fitsB ws' o = true := by
  unfold fitsB at *
  simp only [Bool.or_eq_true] at *
  rcases ho with h1 | h1
  · exact .inl h1
  · exact .inr (isTh_mono h h1)
theorem standsB_mono {ws ws' : List Int} (h : ∀ q ∈ places ws, q ∈ places ws') {f o : Int} (ho : standsB ws f o = true) : standsB ws' f o = true := by
  unfold standsB at *
  split
  · rename_i hf; rw [if_pos hf] at ho; exact ho
  · rename_i hf; rw [if_neg hf] at ho; exact fitsB_mono h ho
theorem stands_zero (ws : List Int) (f : Int) : standsB ws f 0 = true := by
  unfold standsB
  split
  · simp
  · unfold fitsB kd; simp

theorem new_ok (hok : OkH ws) (h : newE ws cl fm k = 0) : OkH (newW ws cl fm k) := by
  obtain ⟨hc, h0, h2, _, hk, hl, h1⟩ := newE_zero h
  have hk' : k ≤ 60 := by omega
  obtain ⟨hpl, hbd⟩ := new_places (cl := cl) hok h0 h2 hk'
  obtain ⟨_, _, hsn, hfm⟩ := new_head (cl := cl) hok h0 h2 hk'
  have hsub : ∀ q ∈ places ws, q ∈ places (newW ws cl fm k) := fun q hq => by rw [hpl]; exact List.mem_append_left _ hq
  have e0 : nth (newW ws cl fm k) ws.length = cl := newW_nth_new 0 (by omega)
  have e1 : nth (newW ws cl fm k) (ws.length + 1) = nth ws 1 := newW_nth_new 1 (by omega)
  have ho1 := hok.w1
  refine ⟨by rw [newW_len_]; omega, by rw [newW_len_]; omega, by rw [newW_nth_lt hok.two (by have := hok.two; omega) (by omega)]; exact hok.w0, by rw [newW_nth_one hok.two]; omega, by rw [newW_nth_one hok.two]; omega, hbd, ?_, ?_⟩
  · rw [hpl]
    intro q hq
    rcases List.mem_append.1 hq with hq | hq
    · have ho := hok.things q hq
      have hm := places_mem hq
      have hnb := not_bad hm.2.2
      have g0 : nth (newW ws cl fm k) q = nth ws q := newW_nth_lt hok.two (by omega) (by omega)
      have g1 : nth (newW ws cl fm k) (q + 1) = nth ws (q + 1) := newW_nth_lt hok.two (by omega) (by omega)
      have g2 : nth (newW ws cl fm k) (q + 2) = nth ws (q + 2) := newW_nth_lt hok.two (by omega) (by omega)
      have gs : slotsN (newW ws cl fm k) q = slotsN ws q := by unfold slotsN; rw [g2]
      have gf : formOf (newW ws cl fm k) q = formOf ws q := by unfold formOf; rw [g2]
      have hle := nxt_le hm.2.2
      have hnx : nxt ws q = q + 3 + slotsN ws q := rfl
      refine ⟨by rw [g0]; exact ho.class_.imp id (isTh_mono hsub), by rw [g1]; exact ho.hash1, by rw [g1, newW_nth_one hok.two]; have := ho.hash2; omega, fun j hj => ?_⟩
      rw [gs] at hj
      rw [gf, newW_nth_lt hok.two (by omega) (by omega)]
      exact standsB_mono hsub (ho.slots j hj)
    · simp at hq
      subst hq
      refine ⟨by rw [e0]; exact hc.imp id (isTh_mono hsub), by rw [e1]; exact ho1, by rw [e1, newW_nth_one hok.two]; omega, fun j hj => ?_⟩
      rw [hsn] at hj
      rw [newW_nth_slot]
      exact stands_zero _ _
  · rw [hpl, List.map_append, List.nodup_append]
    have hmap : (places ws).map (fun p => nth (newW ws cl fm k) (p + 1)) = (places ws).map (fun p => nth ws (p + 1)) := List.map_congr_left fun q hq => by
      have hm := places_mem hq
      have hnb := not_bad hm.2.2
      exact newW_nth_lt hok.two (by omega) (by omega)
    refine ⟨by rw [hmap]; exact hok.hashes, by simp, fun a ha b hb => ?_⟩
    rw [hmap] at ha
    obtain ⟨q, hq, rfl⟩ := List.mem_map.1 ha
    simp [e1] at hb
    subst hb
    have := (hok.things q hq).hash2
    omega
end

end Go.Proofs.Ytjpppdacamhhfaa
