/- Plain laws: things moved one behind the other, as they are come to. No program in sight. Conditions: none. -/
import Derived.Test.YtjpppdacamhhfaaISpec
namespace Go.Proofs.Ytjpppdacamhhfaa
set_option linter.unusedVariables false

theorem getD_el {l : List Nat} {k : Nat} (h : k < l.length) : l.getD k 0 = l[k] := by simp [List.getD, h]
/-- One reference come to: its thing stands behind the others, if it was not there. -/
def visit (ord : List Nat) (o : Int) : List Nat := if kd o = 3 ∧ pcl o ∉ ord then ord ++ [pcl o] else ord
def visits (ord : List Nat) (l : List Int) : List Nat := l.foldl visit ord
/-- The order when k things have been looked at. -/
def chen (ws rs : List Int) : Nat → List Nat
  | 0 => visits [] rs
  | k + 1 => if k < (chen ws rs k).length then visits (chen ws rs k) (holdsL ws ((chen ws rs k).getD k 0)) else chen ws rs k

theorem visit_pre (ord : List Nat) (o : Int) : ord <+: visit ord o := by
  unfold visit; split
  · exact List.prefix_append _ _
  · exact List.prefix_refl _
theorem visits_pre : ∀ (l : List Int) (ord : List Nat), ord <+: visits ord l
  | [], ord => List.prefix_refl _
  | o :: l, ord => (visit_pre ord o).trans (visits_pre l (visit ord o))
theorem visits_snoc (ord : List Nat) (l : List Int) (o : Int) : visits ord (l ++ [o]) = visit (visits ord l) o := by
  unfold visits; rw [List.foldl_append]; rfl
theorem visits_cons (ord : List Nat) (l : List Int) (o : Int) : visits ord (o :: l) = visits (visit ord o) l := rfl
theorem visit_nodup {ord : List Nat} (h : ord.Nodup) (o : Int) : (visit ord o).Nodup := by
  unfold visit; split
  · rename_i hc
    rw [List.nodup_append]
    refine ⟨h, by simp, fun a ha b hb e => ?_⟩
    rw [List.mem_singleton] at hb
    subst hb; subst e
    exact hc.2 ha
  · exact h
theorem visits_nodup : ∀ (l : List Int) {ord : List Nat}, ord.Nodup → (visits ord l).Nodup
  | [], _, h => h
  | o :: l, _, h => visits_nodup l (visit_nodup h o)
theorem visit_mem {ord : List Nat} {o : Int} {p : Nat} : p ∈ visit ord o ↔ p ∈ ord ∨ (kd o = 3 ∧ p = pcl o) := by
  unfold visit; split
  · rename_i hc
    rw [List.mem_append, List.mem_singleton]
    constructor
    · rintro (h | h)
      · exact .inl h
      · exact .inr ⟨hc.1, h⟩
    · rintro (h | h)
      · exact .inl h
      · exact .inr h.2
  · rename_i hc
    constructor
    · exact .inl
    · rintro (h | ⟨h1, h2⟩)
      · exact h
      · exact Classical.byContradiction fun hn => hc ⟨h1, by rw [← h2]; exact hn⟩
theorem visits_mem {p : Nat} : ∀ {l : List Int} {ord : List Nat}, p ∈ visits ord l ↔ p ∈ ord ∨ ∃ o, o ∈ l ∧ kd o = 3 ∧ p = pcl o
  | [], ord => by simp [visits]
  | o :: l, ord => by
    rw [visits_cons, visits_mem, visit_mem]
    constructor
    · rintro ((h | ⟨h1, h2⟩) | ⟨x, hx, h1, h2⟩)
      · exact .inl h
      · exact .inr ⟨o, List.mem_cons_self, h1, h2⟩
      · exact .inr ⟨x, List.mem_cons_of_mem _ hx, h1, h2⟩
    · rintro (h | ⟨x, hx, h1, h2⟩)
      · exact .inl (.inl h)
      · rcases List.mem_cons.1 hx with rfl | hx
        · exact .inl (.inr ⟨h1, h2⟩)
        · exact .inr ⟨x, hx, h1, h2⟩
theorem chen_pre (ws rs : List Int) (k : Nat) : chen ws rs k <+: chen ws rs (k + 1) := by
  rw [chen]; split
  · exact visits_pre _ _
  · exact List.prefix_refl _
theorem chen_le (ws rs : List Int) {j : Nat} : ∀ {k : Nat}, j ≤ k → chen ws rs j <+: chen ws rs k
  | 0, h => by obtain rfl : j = 0 := by omega
               exact List.prefix_refl _
  | k + 1, h => by
    rcases Nat.lt_or_ge j (k + 1) with hl | hl
    · exact (chen_le ws rs (by omega : j ≤ k)).trans (chen_pre ws rs k)
    · obtain rfl : j = k + 1 := by omega
      exact List.prefix_refl _
theorem chen_stop {ws rs : List Int} {j : Nat} (h : (chen ws rs j).length ≤ j) : ∀ {k : Nat}, j ≤ k → chen ws rs k = chen ws rs j
  | 0, hk => by obtain rfl : j = 0 := by omega
                rfl
  | k + 1, hk => by
    rcases Nat.lt_or_ge j (k + 1) with hl | hl
    · have := chen_stop h (by omega : j ≤ k)
      rw [chen, if_neg (by rw [this]; omega), this]
    · obtain rfl : j = k + 1 := by omega
      rfl
theorem chen_one {ws rs : List Int} {j k : Nat} (hj : (chen ws rs j).length = j) (hk : (chen ws rs k).length = k) : j = k := by
  rcases Nat.lt_trichotomy j k with h | h | h
  · rw [chen_stop (by omega) (Nat.le_of_lt h)] at hk; omega
  · exact h
  · rw [chen_stop (by omega) (Nat.le_of_lt h)] at hj; omega
theorem chen_nodup (ws rs : List Int) : ∀ k, (chen ws rs k).Nodup
  | 0 => visits_nodup _ List.nodup_nil
  | k + 1 => by
    rw [chen]; split
    · exact visits_nodup _ (chen_nodup ws rs k)
    · exact chen_nodup ws rs k
theorem chen_rch {ws rs : List Int} : ∀ (k : Nat) {p : Nat}, p ∈ chen ws rs k → Rch ws rs p
  | 0, p, h => by
    rcases visits_mem.1 h with h | ⟨o, ho, hk, rfl⟩
    · simp at h
    · exact .root o ho hk
  | k + 1, p, h => by
    rw [chen] at h
    split at h
    · rename_i hl
      rcases visits_mem.1 h with h | ⟨o, ho, hk, rfl⟩
      · exact chen_rch k h
      · refine .step _ o (chen_rch k (p := (chen ws rs k).getD k 0) ?_) ho hk
        rw [getD_el hl]
        exact List.getElem_mem hl
    · exact chen_rch k h
theorem chen_ord {ws rs : List Int} {k : Nat} (hk : (chen ws rs k).length = k) : OrdOf ws rs (chen ws rs k) := by
  refine ⟨chen_nodup ws rs k, fun p => ⟨chen_rch k, fun h => ?_⟩⟩
  refine h.least (S := fun p => p ∈ chen ws rs k) (fun o ho h3 => ?_) (fun q hq o ho h3 => ?_)
  · exact (chen_le ws rs (Nat.zero_le k)).subset (visits_mem.2 (.inr ⟨o, ho, h3, rfl⟩))
  · obtain ⟨j, hj, rfl⟩ := List.getElem_of_mem hq
    have hl : j < (chen ws rs j).length := by
      refine Classical.byContradiction fun hn => ?_
      have := chen_stop (by omega : (chen ws rs j).length ≤ j) (by omega : j ≤ k)
      rw [this] at hj; omega
    have e : (chen ws rs k)[j] = (chen ws rs j).getD j 0 := by
      rw [getD_el hl]
      exact ((chen_le ws rs (by omega : j ≤ k)).getElem hl).symm
    refine (chen_le ws rs (by omega : j + 1 ≤ k)).subset ?_
    rw [chen, if_pos hl]
    exact visits_mem.2 (.inr ⟨o, by rw [← e]; exact ho, h3, rfl⟩)

/-! Words laid in part: some are references anew, the others are as they were. -/
structure PartW (ws : List Int) (ord : List Nat) (C : Nat → Nat → Prop) (xs : List Int) : Prop where
  len : xs.length = endO ws ord 2
  w0 : nth xs 0 = nth ws 0
  w1 : nth xs 1 = nth ws 1
  yes : ∀ p ∈ ord, ∀ i, i < szT ws p → C p i → nth xs (toO ws ord p + i) = nowO (toO ws ord) (nth ws (p + i))
  no : ∀ p ∈ ord, ∀ i, i < szT ws p → ¬ C p i → nth xs (toO ws ord p + i) = nth ws (p + i)
/-- The words of a thing that hold it, or that are references. -/
def strongI (ws : List Int) (p i : Nat) : Prop := i = 0 ∨ (3 ≤ i ∧ formOf ws p = 0)
def weakI (ws : List Int) (p i : Nat) : Prop := 3 ≤ i ∧ formOf ws p = 2
def refI (ws : List Int) (p i : Nat) : Prop := i = 0 ∨ (3 ≤ i ∧ formOf ws p ≠ 1)
/-- A thing's words as they are. -/
def rawL (ws : List Int) (p : Nat) : List Int := (ws.drop p).take (szT ws p)
theorem rawL_len {ws : List Int} {p : Nat} (hb : badB ws p = false) : (rawL ws p).length = szT ws p := by
  have := not_bad hb
  have hd : slotsN ws p = (nth ws (p + 2) / 4).toNat := rfl
  simp only [rawL, List.length_take, List.length_drop, szT]; omega
theorem rawL_nth {ws : List Int} {p i : Nat} (hi : i < szT ws p) : nth (rawL ws p) i = nth ws (p + i) := by
  simp only [nth, rawL, List.getD_eq_getElem?_getD, List.getElem?_take, hi, if_true, List.getElem?_drop]

theorem offO_part (ws : List Int) {p q : Nat} : ∀ (a : List Nat) (t : Nat), p ∈ a → q ∈ a → p ≠ q → offO ws a t p + szT ws p ≤ offO ws a t q ∨ offO ws a t q + szT ws q ≤ offO ws a t p
  | [], _, h, _, _ => by simp at h
  | x :: a, t, hp, hq, hne => by
    unfold offO
    by_cases h1 : x = p
    · subst h1
      rcases List.mem_cons.1 hq with e | hq'
      · exact absurd e.symm hne
      · rw [if_pos rfl, if_neg hne]
        exact .inl (offO_in ws a _ hq').1
    · rcases List.mem_cons.1 hp with e | hp'
      · exact absurd e.symm h1
      · by_cases h2 : x = q
        · subst h2
          rw [if_neg h1, if_pos rfl]
          exact .inr (offO_in ws a _ hp').1
        · rcases List.mem_cons.1 hq with e | hq'
          · exact absurd e.symm h2
          · rw [if_neg h1, if_neg h2]
            exact offO_part ws a _ hp' hq' hne
theorem pos_inj {ws : List Int} {ord : List Nat} {p q i j : Nat} (hp : p ∈ ord) (hq : q ∈ ord) (hi : i < szT ws p) (hj : j < szT ws q) (e : toO ws ord p + i = toO ws ord q + j) : p = q ∧ i = j := by
  by_cases h : p = q
  · subst h; exact ⟨rfl, by omega⟩
  · have := offO_part ws ord 2 hp hq h
    unfold toO at e; omega
theorem pos_lt {ws : List Int} {ord : List Nat} {p i : Nat} (hp : p ∈ ord) (hi : i < szT ws p) : 2 ≤ toO ws ord p + i ∧ toO ws ord p + i < endO ws ord 2 := by
  have := offO_in ws ord 2 hp
  unfold toO; omega
theorem toO_snoc_ne (ws : List Int) {ord : List Nat} {p q : Nat} (h : q ≠ p) : toO ws (ord ++ [p]) q = toO ws ord q := offO_snoc_ne ws h ord 2
theorem toO_snoc_eq (ws : List Int) {ord : List Nat} {p : Nat} (h : p ∉ ord) : toO ws (ord ++ [p]) p = endO ws ord 2 := offO_snoc_eq ws ord 2 h

theorem PartW.same {ws : List Int} {ord : List Nat} {C C' : Nat → Nat → Prop} {xs : List Int} (h : PartW ws ord C xs) (hc : ∀ p ∈ ord, ∀ i, i < szT ws p → (C p i ↔ C' p i)) : PartW ws ord C' xs :=
  ⟨h.len, h.w0, h.w1, fun p hp i hi hC => h.yes p hp i hi ((hc p hp i hi).2 hC), fun p hp i hi hC => h.no p hp i hi (fun e => hC ((hc p hp i hi).1 e))⟩
theorem PartW.set {ws : List Int} {ord : List Nat} {C C' : Nat → Nat → Prop} {xs : List Int} (h : PartW ws ord C xs) {p i : Nat} (hp : p ∈ ord) (hi : i < szT ws p)
    (hc : ∀ q ∈ ord, ∀ j, j < szT ws q → (C' q j ↔ C q j ∨ (q = p ∧ j = i))) : PartW ws ord C' (xs.set (toO ws ord p + i) (nowO (toO ws ord) (nth ws (p + i)))) := by
  have hb := pos_lt hp hi
  have hl := h.len
  refine ⟨by rw [List.length_set]; exact hl, by rw [nth_set_ne (by omega)]; exact h.w0, by rw [nth_set_ne (by omega)]; exact h.w1, ?_, ?_⟩
  · intro q hq j hj hC
    by_cases e : q = p ∧ j = i
    · obtain ⟨rfl, rfl⟩ := e
      rw [nth_set_eq (by omega)]
    · rw [nth_set_ne (fun e' => e (by have := pos_inj hp hq hi hj e'; exact ⟨this.1.symm, this.2.symm⟩))]
      rcases (hc q hq j hj).1 hC with h1 | h1
      · exact h.yes q hq j hj h1
      · exact absurd h1 e
  · intro q hq j hj hC
    have e : ¬ (q = p ∧ j = i) := fun e => hC ((hc q hq j hj).2 (.inr e))
    rw [nth_set_ne (fun e' => e (by have := pos_inj hp hq hi hj e'; exact ⟨this.1.symm, this.2.symm⟩))]
    exact h.no q hq j hj (fun e' => hC ((hc q hq j hj).2 (.inl e')))
theorem nowO_congr {to to' : Nat → Nat} {o : Int} (h : kd o = 3 → to' (pcl o) = to (pcl o)) : nowO to' o = nowO to o := by
  unfold nowO; split
  · rename_i hk; rw [h hk]
  · rfl
theorem PartW.push {ws : List Int} {ord : List Nat} {C : Nat → Nat → Prop} {xs : List Int} (h : PartW ws ord C xs) {p : Nat} (hp : p ∉ ord) (hb : badB ws p = false)
    (ht : ∀ q ∈ ord, ∀ i, i < szT ws q → C q i → kd (nth ws (q + i)) = 3 → pcl (nth ws (q + i)) ∈ ord) (hn : ∀ i, i < szT ws p → ¬ C p i) : PartW ws (ord ++ [p]) C (xs ++ rawL ws p) := by
  have hl := h.len
  have hr := rawL_len hb
  have h2 := endO_ge ws ord 2
  have key : ∀ q ∈ ord, q ≠ p := fun q hq e => hp (by rw [← e]; exact hq)
  refine ⟨by rw [List.length_append, hr, hl, endO_snoc], by rw [nth_app_left (by omega)]; exact h.w0, by rw [nth_app_left (by omega)]; exact h.w1, ?_, ?_⟩
  · intro q hq i hi hC
    rcases List.mem_append.1 hq with hq | hq
    · have hlt := pos_lt hq hi
      rw [toO_snoc_ne ws (key q hq), nth_app_left (by omega), h.yes q hq i hi hC]
      refine (nowO_congr fun hk => ?_).symm
      exact toO_snoc_ne ws (key _ (ht q hq i hi hC hk))
    · rw [List.mem_singleton] at hq
      subst hq
      exact absurd hC (hn i hi)
  · intro q hq i hi hC
    rcases List.mem_append.1 hq with hq | hq
    · have hlt := pos_lt hq hi
      rw [toO_snoc_ne ws (key q hq), nth_app_left (by omega), h.no q hq i hi hC]
    · rw [List.mem_singleton] at hq
      subst hq
      rw [toO_snoc_eq ws hp, nth_app_right (by omega), show endO ws ord 2 + i - xs.length = i from by omega, rawL_nth hi]
/-- Words laid raw, nothing turned yet. -/
theorem PartW.start (ws : List Int) : PartW ws [] (fun _ _ => False) [nth ws 0, nth ws 1] :=
  ⟨rfl, rfl, rfl, fun _ h => by simp at h, fun _ h => by simp at h⟩
/-- What lies where the parts lie. -/
theorem pos_ex (ws : List Int) : ∀ (a : List Nat) (t j : Nat), t ≤ j → j < endO ws a t → ∃ p i, p ∈ a ∧ i < szT ws p ∧ (a.Nodup → j = offO ws a t p + i)
  | [], t, j, h1, h2 => by simp [endO] at h2; omega
  | p :: a, t, j, h1, h2 => by
    rcases Nat.lt_or_ge j (t + szT ws p) with hl | hl
    · refine ⟨p, j - t, List.mem_cons_self, by omega, fun _ => ?_⟩
      unfold offO; rw [if_pos rfl]; omega
    · obtain ⟨q, i, hq, hi, e⟩ := pos_ex ws a (t + szT ws p) j hl h2
      refine ⟨q, i, List.mem_cons_of_mem _ hq, hi, fun hn => ?_⟩
      obtain ⟨n1, n2⟩ := List.nodup_cons.1 hn
      unfold offO
      rw [if_neg (fun e => n1 (by rw [e]; exact hq))]
      exact e n2
theorem PartW.fin {ws : List Int} {ord : List Nat} {xs : List Int} (h : PartW ws ord (refI ws) xs) (hn : ord.Nodup) (hb : ∀ p ∈ ord, badB ws p = false) : xs = arrW ws ord := by
  have hl : (arrW ws ord).length = endO ws ord 2 := laid_len hb
  apply list_ext_nth
  · rw [hl, h.len]
  · intro j hj
    rw [h.len] at hj
    rcases Nat.lt_or_ge j 2 with h2 | h2
    · have hc : j = 0 ∨ j = 1 := by omega
      rcases hc with rfl | rfl
      · exact h.w0
      · exact h.w1
    · obtain ⟨p, i, hp, hi, e⟩ := pos_ex ws ord 2 j h2 hj
      have e' : j = toO ws ord p + i := e hn
      have ha : nth (arrW ws ord) (toO ws ord p + i) = nth (thingO (nowO (toO ws ord)) ws p) i := laid_nth hb hp hi
      rw [e', ha]
      have hs : i < 3 + slotsN ws p := hi
      by_cases hr : refI ws p i
      · rw [h.yes p hp i hi hr]
        rcases hr with rfl | ⟨h3, hf⟩
        · rfl
        · rw [show i = 3 + (i - 3) from by omega, thingO_slot (hb p hp) (by omega), if_neg hf, Nat.add_assoc]
      · rw [h.no p hp i hi hr]
        have hc : i = 1 ∨ i = 2 ∨ (3 ≤ i ∧ formOf ws p = 1) := by
          unfold refI at hr
          by_cases h3 : 3 ≤ i
          · exact .inr (.inr ⟨h3, Classical.byContradiction fun hn => hr (.inr ⟨h3, hn⟩)⟩)
          · have : i ≠ 0 := fun e => hr (.inl e)
            omega
        rcases hc with rfl | rfl | ⟨h3, hf⟩
        · rfl
        · rfl
        · rw [show i = 3 + (i - 3) from by omega, thingO_slot (hb p hp) (by omega), if_pos hf, Nat.add_assoc]

end Go.Proofs.Ytjpppdacamhhfaa
