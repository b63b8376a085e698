/- Plain laws: things laid anew, in an order of one's own. No program in sight. Conditions: none. -/
import Derived.Test.YtjpppdacamhhfaaRSpec
import Derived.Test.YtjpppdacamhhfaaBSpec2
namespace Go.Proofs.Ytjpppdacamhhfaa
set_option linter.unusedVariables false

/-- How many words a thing has. -/
def szT (ws : List Int) (p : Nat) : Nat := 3 + slotsN ws p
theorem nxt_sz (ws : List Int) (p : Nat) : nxt ws p = p + szT ws p := by unfold nxt szT; omega
/-- The place behind things that are laid from t on. -/
def endO (ws : List Int) : List Nat → Nat → Nat
  | [], t => t
  | p :: ps, t => endO ws ps (t + szT ws p)
/-- Where a thing is laid; 0: nowhere. -/
def offO (ws : List Int) : List Nat → Nat → Nat → Nat
  | [], _, _ => 0
  | p :: ps, t, q => if p = q then t else offO ws ps (t + szT ws p) q
/-- The places of what is laid. -/
def posO (ws : List Int) : List Nat → Nat → List Nat
  | [], _ => []
  | p :: ps, t => t :: posO ws ps (t + szT ws p)
/-- A reference anew. -/
def nowO (to : Nat → Nat) (o : Int) : Int := if kd o = 3 then 2 * (to (pcl o) : Int) else o
def thingO (h : Int → Int) (ws : List Int) (p : Nat) : List Int := h (nth ws p) :: nth ws (p + 1) :: nth ws (p + 2) :: (if formOf ws p = 1 then slotsL ws p else (slotsL ws p).map h)
def laidO (h : Int → Int) (ws : List Int) (ord : List Nat) : List Int := [nth ws 0, nth ws 1] ++ ord.flatMap (thingO h ws)
def toO (ws : List Int) (ord : List Nat) : Nat → Nat := offO ws ord 2
def arrW (ws : List Int) (ord : List Nat) : List Int := laidO (nowO (toO ws ord)) ws ord
def arrR (ws rs : List Int) (ord : List Nat) : List Int := rs.map (nowO (toO ws ord))

theorem endO_snoc (ws : List Int) (p : Nat) : ∀ (a : List Nat) (t : Nat), endO ws (a ++ [p]) t = endO ws a t + szT ws p
  | [], t => rfl
  | q :: a, t => by simp only [List.cons_append, endO]; exact endO_snoc ws p a _
theorem endO_ge (ws : List Int) : ∀ (a : List Nat) (t : Nat), t ≤ endO ws a t
  | [], t => Nat.le_refl _
  | q :: a, t => by have := endO_ge ws a (t + szT ws q); unfold endO; omega
theorem offO_out (ws : List Int) {q : Nat} : ∀ (a : List Nat) (t : Nat), q ∉ a → offO ws a t q = 0
  | [], _, _ => rfl
  | p :: a, t, h => by
    unfold offO
    rw [if_neg (fun e => h (by rw [e]; exact List.mem_cons_self)), offO_out ws a _ (fun e => h (List.mem_cons_of_mem _ e))]
theorem offO_snoc_ne (ws : List Int) {p q : Nat} (h : q ≠ p) : ∀ (a : List Nat) (t : Nat), offO ws (a ++ [p]) t q = offO ws a t q
  | [], t => by simp [offO, h.symm]
  | x :: a, t => by simp only [List.cons_append, offO]; rw [offO_snoc_ne ws h a]
theorem offO_snoc_eq (ws : List Int) {p : Nat} : ∀ (a : List Nat) (t : Nat), p ∉ a → offO ws (a ++ [p]) t p = endO ws a t
  | [], t, _ => by simp [offO, endO]
  | x :: a, t, h => by
    simp only [List.cons_append, offO, endO]
    rw [if_neg (fun e => h (by rw [e]; exact List.mem_cons_self))]
    exact offO_snoc_eq ws a _ (fun e => h (List.mem_cons_of_mem _ e))
theorem offO_in (ws : List Int) {q : Nat} : ∀ (a : List Nat) (t : Nat), q ∈ a → t ≤ offO ws a t q ∧ offO ws a t q + szT ws q ≤ endO ws a t
  | [], _, h => by simp at h
  | p :: a, t, h => by
    unfold offO endO
    split
    · rename_i e; subst e; exact ⟨Nat.le_refl _, endO_ge ws a _⟩
    · rename_i e
      rcases List.mem_cons.1 h with e' | h'
      · exact absurd e'.symm e
      · have := offO_in ws a (t + szT ws p) h'
        omega
theorem offO_inj (ws : List Int) {p q : Nat} : ∀ (a : List Nat) (t : Nat), p ∈ a → q ∈ a → offO ws a t p = offO ws a t q → p = q
  | [], _, h, _, _ => by simp at h
  | x :: a, t, hp, hq, e => by
    have hs : 3 ≤ szT ws x := by unfold szT; omega
    unfold offO at e
    by_cases h1 : x = p
    · by_cases h2 : x = q
      · exact h1.symm.trans h2
      · rw [if_pos h1, if_neg h2] at e
        rcases List.mem_cons.1 hq with e' | h'
        · exact absurd e'.symm h2
        · have := offO_in ws a (t + szT ws x) h'
          omega
    · rcases List.mem_cons.1 hp with e' | hp'
      · exact absurd e'.symm h1
      · by_cases h2 : x = q
        · rw [if_neg h1, if_pos h2] at e
          have := offO_in ws a (t + szT ws x) hp'
          omega
        · rw [if_neg h1, if_neg h2] at e
          rcases List.mem_cons.1 hq with e' | hq'
          · exact absurd e'.symm h2
          · exact offO_inj ws a _ hp' hq' e
theorem posO_mem (ws : List Int) {x : Nat} : ∀ (a : List Nat) (t : Nat), a.Nodup → (x ∈ posO ws a t ↔ ∃ p, p ∈ a ∧ x = offO ws a t p)
  | [], _, _ => by simp [posO]
  | p :: a, t, hn => by
    obtain ⟨h1, h2⟩ := List.nodup_cons.1 hn
    unfold posO
    rw [List.mem_cons, posO_mem ws a _ h2]
    constructor
    · rintro (rfl | ⟨q, hq, rfl⟩)
      · exact ⟨p, List.mem_cons_self, by simp [offO]⟩
      · exact ⟨q, List.mem_cons_of_mem _ hq, by rw [offO, if_neg (fun e => h1 (by rw [e]; exact hq))]⟩
    · rintro ⟨q, hq, e⟩
      unfold offO at e
      split at e
      · exact .inl e
      · rename_i hne
        rcases List.mem_cons.1 hq with e' | h'
        · exact absurd e'.symm hne
        · exact .inr ⟨q, h', e⟩

theorem thingO_len {h : Int → Int} {ws : List Int} {p : Nat} (hb : badB ws p = false) : (thingO h ws p).length = szT ws p := by
  have := slotsL_len hb
  unfold thingO szT
  split <;> simp [this] <;> omega
theorem thingO_0 (h : Int → Int) (ws : List Int) (p : Nat) : nth (thingO h ws p) 0 = h (nth ws p) := rfl
theorem thingO_1 (h : Int → Int) (ws : List Int) (p : Nat) : nth (thingO h ws p) 1 = nth ws (p + 1) := rfl
theorem thingO_2 (h : Int → Int) (ws : List Int) (p : Nat) : nth (thingO h ws p) 2 = nth ws (p + 2) := rfl
theorem nth_cons_succ (x : Int) (xs : List Int) (j : Nat) : nth (x :: xs) (j + 1) = nth xs j := by simp [nth]
theorem nth_map {h : Int → Int} {xs : List Int} {j : Nat} (hj : j < xs.length) : nth (xs.map h) j = h (nth xs j) := by
  rw [nth_eq (by simpa using hj), nth_eq hj, List.getElem_map]
theorem thingO_slot {h : Int → Int} {ws : List Int} {p k : Nat} (hb : badB ws p = false) (hk : k < slotsN ws p) :
    nth (thingO h ws p) (3 + k) = if formOf ws p = 1 then nth ws (p + 3 + k) else h (nth ws (p + 3 + k)) := by
  have hl := slotsL_len hb
  unfold thingO
  rw [show 3 + k = k + 1 + 1 + 1 from by omega, nth_cons_succ, nth_cons_succ, nth_cons_succ]
  split
  · exact slotsL_nth hb hk
  · rw [nth_map (by omega), slotsL_nth hb hk]

theorem flat_len {h : Int → Int} {ws : List Int} : ∀ (a : List Nat) (t : Nat), (∀ p ∈ a, badB ws p = false) → t + (a.flatMap (thingO h ws)).length = endO ws a t
  | [], t, _ => by simp [endO]
  | p :: a, t, hb => by
    have h1 := thingO_len (h := h) (hb p List.mem_cons_self)
    have := flat_len (h := h) a (t + szT ws p) (fun q hq => hb q (List.mem_cons_of_mem _ hq))
    simp only [List.flatMap_cons, List.length_append, endO]
    omega
theorem flat_nth {h : Int → Int} {ws : List Int} {q i : Nat} : ∀ (a : List Nat) (pre : List Int), (∀ p ∈ a, badB ws p = false) → q ∈ a → i < szT ws q →
    nth (pre ++ a.flatMap (thingO h ws)) (offO ws a pre.length q + i) = nth (thingO h ws q) i
  | [], _, _, hq, _ => by simp at hq
  | p :: a, pre, hb, hq, hi => by
    have h1 := thingO_len (h := h) (hb p List.mem_cons_self)
    rw [List.flatMap_cons]
    unfold offO
    split
    · rename_i e; subst e
      rw [nth_app_right (by omega), nth_app_left (by omega)]
      congr 1; omega
    · rename_i e
      rcases List.mem_cons.1 hq with e' | h'
      · exact absurd e'.symm e
      · have := flat_nth (i := i) (h := h) a (pre ++ thingO h ws p) (fun q hq => hb q (List.mem_cons_of_mem _ hq)) h' hi
        rw [List.append_assoc, List.length_append, h1] at this
        exact this

section
variable {h : Int → Int} {ws : List Int} {ord : List Nat} (hb : ∀ p ∈ ord, badB ws p = false)
include hb
theorem laid_len : (laidO h ws ord).length = endO ws ord 2 := by
  have := flat_len (h := h) ord 2 hb
  unfold laidO
  simp only [List.length_append, List.length_cons, List.length_nil]
  omega
theorem laid_nth {q i : Nat} (hq : q ∈ ord) (hi : i < szT ws q) : nth (laidO h ws ord) (toO ws ord q + i) = nth (thingO h ws q) i := by
  unfold laidO toO
  exact flat_nth ord [nth ws 0, nth ws 1] hb hq hi
end
theorem laid_0 (h : Int → Int) (ws : List Int) (ord : List Nat) : nth (laidO h ws ord) 0 = nth ws 0 := rfl
theorem laid_1 (h : Int → Int) (ws : List Int) (ord : List Nat) : nth (laidO h ws ord) 1 = nth ws 1 := rfl

/-- The things of what is laid. -/
theorem flat_places {h : Int → Int} {ws X : List Int} : ∀ (a : List Nat) (pre : List Int), (∀ p ∈ a, badB ws p = false) → X = pre ++ a.flatMap (thingO h ws) →
    plFrom X pre.length = posO ws a pre.length ∧ badFrom X pre.length = none
  | [], pre, _, hX => by
    have : X.length ≤ pre.length := by rw [hX]; simp
    exact ⟨plFrom_end this, badFrom_end this⟩
  | p :: a, pre, hb, hX => by
    have hbp := hb p List.mem_cons_self
    have h1 := thingO_len (h := h) hbp
    have hnb := not_bad hbp
    have hX' : X = (pre ++ thingO h ws p) ++ a.flatMap (thingO h ws) := by rw [hX, List.flatMap_cons, List.append_assoc]
    have hl : X.length = pre.length + szT ws p + (a.flatMap (thingO h ws)).length := by rw [hX', List.length_append, List.length_append, h1]
    have hs : 3 ≤ szT ws p := by unfold szT; omega
    have h2 : nth X (pre.length + 2) = nth ws (p + 2) := by
      rw [hX', nth_app_left (by simp [h1]; omega), nth_app_right (by omega)]
      rw [show pre.length + 2 - pre.length = 2 from by omega]
      exact thingO_2 h ws p
    have hsl : slotsN X pre.length = slotsN ws p := by unfold slotsN; rw [h2]
    have hbX : badB X pre.length = false := by
      have hd : ((slotsN ws p : Nat) : Int) = nth ws (p + 2) / 4 := by unfold slotsN; omega
      have hz : (szT ws p : Int) = 3 + nth ws (p + 2) / 4 := by unfold szT; omega
      unfold badB
      rw [h2]
      simp only [Bool.or_eq_false_iff, decide_eq_false_iff_not]
      omega
    have hn : nxt X pre.length = (pre ++ thingO h ws p).length := by
      rw [nxt_sz, List.length_append, h1]; unfold szT; rw [hsl]
    have hlt : pre.length < X.length := by omega
    obtain ⟨r1, r2⟩ := flat_places a (pre ++ thingO h ws p) (fun q hq => hb q (List.mem_cons_of_mem _ hq)) hX'
    rw [plFrom_ok hlt hbX, badFrom_ok hlt hbX, hn, r1, r2]
    refine ⟨?_, rfl⟩
    rw [posO, List.length_append, h1]
theorem laid_places {h : Int → Int} {ws : List Int} {ord : List Nat} (hb : ∀ p ∈ ord, badB ws p = false) : places (laidO h ws ord) = posO ws ord 2 ∧ bad1 (laidO h ws ord) = none :=
  flat_places ord [nth ws 0, nth ws 1] hb rfl

/-- All things together fill the heap. -/
theorem endO_all (ws : List Int) : ∀ (f p : Nat), p ≤ ws.length → ws.length ≤ p + f → badFrom ws p = none → endO ws (plFrom ws p) p = ws.length
  | 0, p, h1, h2, _ => by
    rw [plFrom_end (by omega)]; simp [endO]; omega
  | f + 1, p, h1, h2, hb => by
    rcases Nat.lt_or_ge p ws.length with hl | hl
    · obtain ⟨g1, g2⟩ := badFrom_none hb hl
      have hn := nxt_gt ws p
      have hle := nxt_le g1
      rw [plFrom_ok hl g1, endO, ← nxt_sz]
      exact endO_all ws f (nxt ws p) hle (by omega) g2
    · rw [plFrom_end hl]; simp [endO]; omega
theorem endO_places {ws : List Int} (hok : OkH ws) : endO ws (places ws) 2 = ws.length := by
  have := hok.two
  have hb : badFrom ws 2 = none := hok.bad
  exact endO_all ws ws.length 2 this (by omega) hb
theorem endO_add (ws : List Int) : ∀ (a : List Nat) (t s : Nat), endO ws a (t + s) = endO ws a t + s
  | [], t, s => rfl
  | p :: a, t, s => by unfold endO; rw [show t + s + szT ws p = t + szT ws p + s from by omega]; exact endO_add ws a _ s
theorem endO_erase (ws : List Int) {q : Nat} : ∀ (b : List Nat) (t : Nat), q ∈ b → endO ws (b.erase q) t + szT ws q = endO ws b t
  | [], _, h => by simp at h
  | p :: b, t, h => by
    rw [List.erase_cons]
    by_cases e : p = q
    · subst e
      simp only [beq_self_eq_true, if_true, endO]
      exact (endO_add ws b t _).symm
    · rcases List.mem_cons.1 h with e' | h'
      · exact absurd e'.symm e
      · rw [if_neg (by simpa using e), endO, endO]
        exact endO_erase ws b _ h'
/-- What is laid of some things takes no more than all. -/
theorem endO_le (ws : List Int) : ∀ (a b : List Nat) (t : Nat), a.Nodup → (∀ p ∈ a, p ∈ b) → endO ws a t ≤ endO ws b t
  | [], b, t, _, _ => endO_ge ws b t
  | p :: a, b, t, hn, hs => by
    obtain ⟨h1, h2⟩ := List.nodup_cons.1 hn
    have hp := hs p List.mem_cons_self
    have h3 := endO_le ws a (b.erase p) t h2 (fun q hq => by
      have hne : q ≠ p := fun e => h1 (by rw [← e]; exact hq)
      exact (List.mem_erase_of_ne hne).2 (hs q (List.mem_cons_of_mem _ hq)))
    have h4 := endO_erase ws b t hp
    rw [endO, endO_add]
    omega
theorem endO_perm (ws : List Int) {a b : List Nat} (ha : a.Nodup) (hb : b.Nodup) (h : ∀ p, p ∈ a ↔ p ∈ b) (t : Nat) : endO ws a t = endO ws b t :=
  Nat.le_antisymm (endO_le ws a b t ha fun p hp => (h p).1 hp) (endO_le ws b a t hb fun p hp => (h p).2 hp)

end Go.Proofs.Ytjpppdacamhhfaa
