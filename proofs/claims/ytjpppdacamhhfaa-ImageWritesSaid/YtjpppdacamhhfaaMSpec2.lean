/- Plain laws: the moved words, step by step. No program in sight. Conditions: none. -/
import Derived.Test.YtjpppdacamhhfaaMSpec
import Derived.Test.YtjpppdacamhhfaaSSpec
namespace Go.Proofs.Ytjpppdacamhhfaa
set_option linter.unusedVariables false

theorem toO_visit {ws : List Int} {ord : List Nat} {p : Nat} (hp : p ∈ ord) (o : Int) : toO ws (visit ord o) p = toO ws ord p := by
  unfold visit; split
  · rename_i h
    exact toO_snoc_ne ws (fun e => h.2 (by rw [← e]; exact hp))
  · rfl
theorem now_visit {ws : List Int} {ord : List Nat} {x : Int} (hx : kd x = 3 → pcl x ∈ ord) (o : Int) : nowO (toO ws (visit ord o)) x = nowO (toO ws ord) x :=
  nowO_congr fun hk => toO_visit (hx hk) o
theorem visit_here {ord : List Nat} {o : Int} (hk : kd o = 3) : pcl o ∈ visit ord o := visit_mem.2 (.inr ⟨hk, rfl⟩)
theorem visit_keep {ord : List Nat} {o : Int} {p : Nat} (h : p ∈ ord) : p ∈ visit ord o := visit_mem.2 (.inl h)
/-- All targets of some references are there. -/
def Tgt (ord : List Nat) (l : List Int) : Prop := ∀ o ∈ l, kd o = 3 → pcl o ∈ ord
theorem Tgt.visit {ord : List Nat} {l : List Int} (h : Tgt ord l) (o : Int) : Tgt (visit ord o) l := fun x hx hk => visit_keep (h x hx hk)
theorem Tgt.snoc {ord : List Nat} {l : List Int} (h : Tgt ord l) (o : Int) : Tgt (Go.Proofs.Ytjpppdacamhhfaa.visit ord o) (l ++ [o]) := fun x hx hk => by
  rcases List.mem_append.1 hx with hx | hx
  · exact visit_keep (h x hx hk)
  · rw [List.mem_singleton] at hx; subst hx; exact visit_here hk
theorem tgt_nil (ord : List Nat) : Tgt ord [] := fun _ h => by simp at h
theorem map_visit {ws : List Int} {ord : List Nat} {l : List Int} (h : Tgt ord l) (o : Int) : l.map (nowO (toO ws (visit ord o))) = l.map (nowO (toO ws ord)) :=
  List.map_congr_left fun x hx => now_visit (h x hx) o
/-- The order's own: no thing twice, all are things. -/
structure Ordr (ws : List Int) (ord : List Nat) : Prop where
  nodup : ord.Nodup
  pl : ∀ p ∈ ord, p ∈ places ws
theorem Ordr.nil (ws : List Int) : Ordr ws [] := ⟨List.nodup_nil, fun _ h => by simp at h⟩
theorem Ordr.visit {ws : List Int} {ord : List Nat} (h : Ordr ws ord) {o : Int} (ho : fitsB ws o = true) : Ordr ws (visit ord o) :=
  ⟨visit_nodup h.nodup o, fun p hp => by
    rcases visit_mem.1 hp with hp | ⟨hk, rfl⟩
    · exact h.pl p hp
    · exact fits_pl ho hk⟩
theorem Ordr.bad {ws : List Int} {ord : List Nat} (h : Ordr ws ord) : ∀ p ∈ ord, badB ws p = false := fun p hp => (places_mem (h.pl p hp)).2.2
theorem Ordr.few {ws : List Int} {ord : List Nat} (h : Ordr ws ord) : ord.length ≤ (places ws).length := len_le h.nodup h.pl

/-- What is laid when one more is come to. -/
def pushL (ws : List Int) (ord : List Nat) (o : Int) (xs : List Int) : List Int := if kd o = 3 ∧ pcl o ∉ ord then xs ++ rawL ws (pcl o) else xs
theorem PartW.visit {ws : List Int} {ord : List Nat} {C : Nat → Nat → Prop} {xs : List Int} (h : PartW ws ord C xs) {o : Int} (ho : fitsB ws o = true)
    (ht : ∀ q ∈ ord, ∀ i, i < szT ws q → C q i → kd (nth ws (q + i)) = 3 → pcl (nth ws (q + i)) ∈ ord) (hn : kd o = 3 → pcl o ∉ ord → ∀ i, i < szT ws (pcl o) → ¬ C (pcl o) i) : PartW ws (visit ord o) C (pushL ws ord o xs) := by
  unfold Go.Proofs.Ytjpppdacamhhfaa.visit pushL
  by_cases hc : kd o = 3 ∧ pcl o ∉ ord
  · rw [if_pos hc, if_pos hc]
    exact h.push hc.2 (places_mem (fits_pl ho hc.1)).2.2 ht (hn hc.1 hc.2)
  · rw [if_neg hc, if_neg hc]; exact h

/-! The scan of a thing: D are the things done, p the one at hand, j of its words of a number done. -/
def scanC (ws : List Int) (D : List Nat) (p j : Nat) (q i : Nat) : Prop := strongI ws q i ∧ (q ∈ D ∨ (q = p ∧ i < j))
/-- What the scan has done has its targets there. -/
structure Scan (ws : List Int) (ord D : List Nat) (p j : Nat) (xs : List Int) : Prop where
  ordr : Ordr ws ord
  part : PartW ws ord (scanC ws D p j) xs
  done : ∀ q ∈ D, q ∈ ord ∧ Tgt ord (holdsL ws q)
  here : p ∉ D
  tgt : ∀ i, i < j → strongI ws p i → kd (nth ws (p + i)) = 3 → pcl (nth ws (p + i)) ∈ ord
theorem strong_holds {ws : List Int} {q i : Nat} (hb : badB ws q = false) (hi : i < szT ws q) (h : strongI ws q i) : nth ws (q + i) ∈ holdsL ws q := by
  unfold holdsL
  rcases h with rfl | ⟨h3, hf⟩
  · exact List.mem_cons_self
  · rw [if_pos hf]
    refine List.mem_cons_of_mem _ ((slotsL_mem hb).2 ⟨i - 3, ?_, ?_⟩)
    · unfold szT at hi; omega
    · rw [show q + 3 + (i - 3) = q + i from by omega]
theorem Scan.all_tgt {ws : List Int} {ord D : List Nat} {p j : Nat} {xs : List Int} (h : Scan ws ord D p j xs) : ∀ q ∈ ord, ∀ i, i < szT ws q → scanC ws D p j q i → kd (nth ws (q + i)) = 3 → pcl (nth ws (q + i)) ∈ ord := by
  rintro q hq i hi ⟨hs, hd⟩ hk
  rcases hd with hd | ⟨rfl, hj⟩
  · exact (h.done q hd).2 _ (strong_holds (h.ordr.bad q hq) hi hs) hk
  · exact h.tgt i hj hs hk
theorem Scan.visit {ws : List Int} {ord D : List Nat} {p j : Nat} {xs : List Int} (h : Scan ws ord D p j xs) (hp : p ∈ ord) {o : Int} (ho : fitsB ws o = true) : Scan ws (visit ord o) D p j (pushL ws ord o xs) :=
  ⟨h.ordr.visit ho, h.part.visit ho h.all_tgt (fun hk hn i hi hc => by
    rcases hc.2 with hd | ⟨e, _⟩
    · exact hn (h.done _ hd).1
    · exact hn (e ▸ hp)), fun q hq => ⟨visit_keep (h.done q hq).1, (h.done q hq).2.visit o⟩, h.here, fun i hi hs hk => visit_keep (h.tgt i hi hs hk)⟩
/-- A word of a number turned. -/
theorem Scan.put {ws : List Int} {ord D : List Nat} {p j : Nat} {xs : List Int} (h : Scan ws ord D p j xs) (hp : p ∈ ord) (hj : j < szT ws p) (hs : strongI ws p j) (ht : kd (nth ws (p + j)) = 3 → pcl (nth ws (p + j)) ∈ ord) :
    Scan ws ord D p (j + 1) (xs.set (toO ws ord p + j) (nowO (toO ws ord) (nth ws (p + j)))) := by
  refine ⟨h.ordr, h.part.set hp hj ?_, h.done, h.here, fun i hi hs' hk => ?_⟩
  · intro q hq i hi
    unfold scanC
    constructor
    · rintro ⟨a, b | ⟨rfl, b⟩⟩
      · exact .inl ⟨a, .inl b⟩
      · by_cases e : i = j
        · exact .inr ⟨rfl, e⟩
        · exact .inl ⟨a, .inr ⟨rfl, by omega⟩⟩
    · rintro (⟨a, b | ⟨rfl, b⟩⟩ | ⟨rfl, rfl⟩)
      · exact ⟨a, .inl b⟩
      · exact ⟨a, .inr ⟨rfl, by omega⟩⟩
      · exact ⟨hs, .inr ⟨rfl, by omega⟩⟩
  · by_cases e : i = j
    · subst e; exact ht hk
    · exact h.tgt i (by omega) hs' hk
/-- A word that is none of these passed by. -/
theorem Scan.pass {ws : List Int} {ord D : List Nat} {p j j' : Nat} {xs : List Int} (h : Scan ws ord D p j xs) (hjj : j ≤ j') (hs : ∀ i, j ≤ i → i < j' → i < szT ws p → ¬ strongI ws p i) (hj : j' ≤ szT ws p) : Scan ws ord D p j' xs := by
  refine ⟨h.ordr, h.part.same ?_, h.done, h.here, fun i hi hs' hk => ?_⟩
  · intro q hq i hi
    unfold scanC
    constructor
    · rintro ⟨a, b | ⟨rfl, b⟩⟩
      · exact ⟨a, .inl b⟩
      · exact ⟨a, .inr ⟨rfl, by omega⟩⟩
    · rintro ⟨a, b | ⟨rfl, b⟩⟩
      · exact ⟨a, .inl b⟩
      · by_cases e : i < j
        · exact ⟨a, .inr ⟨rfl, e⟩⟩
        · exact absurd a (hs i (by omega) b hi)
  · by_cases e : i < j
    · exact h.tgt i e hs' hk
    · exact absurd hs' (hs i (by omega) hi (by omega))
/-- The thing at hand is done. -/
theorem Scan.next {ws : List Int} {ord D : List Nat} {p : Nat} {xs : List Int} (h : Scan ws ord D p (szT ws p) xs) (hp : p ∈ ord) {p' : Nat} (hp' : p' ∉ D ++ [p]) : Scan ws ord (D ++ [p]) p' 0 xs := by
  refine ⟨h.ordr, h.part.same ?_, ?_, hp', fun i hi => absurd hi (Nat.not_lt_zero _)⟩
  · intro q hq i hi
    unfold scanC
    constructor
    · rintro ⟨a, b | ⟨rfl, b⟩⟩
      · exact ⟨a, .inl (List.mem_append_left _ b)⟩
      · exact ⟨a, .inl (by simp)⟩
    · rintro ⟨a, b | ⟨rfl, b⟩⟩
      · rcases List.mem_append.1 b with b | b
        · exact ⟨a, .inl b⟩
        · rw [List.mem_singleton] at b
          subst b
          exact ⟨a, .inr ⟨rfl, hi⟩⟩
      · omega
  · intro q hq
    rcases List.mem_append.1 hq with hq | hq
    · exact h.done q hq
    · rw [List.mem_singleton] at hq
      subst hq
      refine ⟨hp, fun o ho hk => ?_⟩
      have hb := h.ordr.bad q hp
      have hsz : szT ws q = 3 + slotsN ws q := rfl
      unfold holdsL at ho
      rcases List.mem_cons.1 ho with rfl | ho
      · exact h.tgt 0 (by omega) (.inl rfl) hk
      · split at ho
        · rename_i hf
          obtain ⟨k, hk', rfl⟩ := (slotsL_mem hb).1 ho
          have := h.tgt (3 + k) (by omega) (.inr ⟨by omega, hf⟩)
          rw [← Nat.add_assoc] at this
          exact this hk
        · simp at ho
/-- Where p is not in the order nor done, 0 words of it are done: any p will do. -/
theorem Scan.other {ws : List Int} {ord D : List Nat} {p p' : Nat} {xs : List Int} (h : Scan ws ord D p 0 xs) (hp' : p' ∉ D) : Scan ws ord D p' 0 xs :=
  ⟨h.ordr, h.part.same fun q hq i hi => by
    unfold scanC
    constructor
    · rintro ⟨a, b | ⟨_, b⟩⟩
      · exact ⟨a, .inl b⟩
      · omega
    · rintro ⟨a, b | ⟨_, b⟩⟩
      · exact ⟨a, .inl b⟩
      · omega, h.done, hp', fun i hi => absurd hi (Nat.not_lt_zero _)⟩
/-- The word at hand is as it was. -/
theorem Scan.raw {ws : List Int} {ord D : List Nat} {p j i : Nat} {xs : List Int} (h : Scan ws ord D p j xs) (hp : p ∈ ord) (hi : i < szT ws p) (hji : j ≤ i) : nth xs (toO ws ord p + i) = nth ws (p + i) :=
  h.part.no p hp i hi (fun e => by
    rcases e.2 with e' | ⟨_, e'⟩
    · exact h.here e'
    · omega)
/-- The head's words are as they were. -/
theorem Scan.head {ws : List Int} {ord D : List Nat} {p j : Nat} {xs : List Int} (h : Scan ws ord D p j xs) (hp : p ∈ ord) : nth xs (toO ws ord p + 2) = nth ws (p + 2) :=
  h.part.no p hp 2 (by unfold szT; omega) (fun e => by
    rcases e.1 with e' | ⟨e', _⟩ <;> omega)

/-! Weak words. -/
def weakP (ws : List Int) (q : Nat) : List (Nat × Nat) := if formOf ws q = 2 then (List.range (slotsN ws q)).map fun i => (q, 3 + i) else []
def weakL (ws : List Int) (D : List Nat) : List (Nat × Nat) := D.flatMap (weakP ws)
def weakPos (ws : List Int) (ord : List Nat) (l : List (Nat × Nat)) : List Int := l.map fun x => ((toO ws ord x.1 + x.2 : Nat) : Int)
theorem weakP_mem {ws : List Int} {q : Nat} {x : Nat × Nat} : x ∈ weakP ws q ↔ formOf ws q = 2 ∧ x.1 = q ∧ ∃ i, i < slotsN ws q ∧ x.2 = 3 + i := by
  unfold weakP
  split
  · rename_i h
    rw [List.mem_map]
    constructor
    · rintro ⟨i, hi, rfl⟩; exact ⟨h, rfl, i, List.mem_range.1 hi, rfl⟩
    · rintro ⟨_, h1, i, hi, h2⟩
      exact ⟨i, List.mem_range.2 hi, by rw [← h1, ← h2]⟩
  · rename_i h
    constructor
    · intro e; simp at e
    · rintro ⟨e, _⟩; exact absurd e h
theorem weakL_mem {ws : List Int} {D : List Nat} {x : Nat × Nat} : x ∈ weakL ws D ↔ x.1 ∈ D ∧ formOf ws x.1 = 2 ∧ ∃ i, i < slotsN ws x.1 ∧ x.2 = 3 + i := by
  unfold weakL
  rw [List.mem_flatMap]
  constructor
  · rintro ⟨q, hq, hx⟩
    obtain ⟨h1, h2, h3⟩ := weakP_mem.1 hx
    subst h2
    exact ⟨hq, h1, h3⟩
  · rintro ⟨h1, h2, h3⟩
    exact ⟨x.1, h1, weakP_mem.2 ⟨h2, rfl, h3⟩⟩
theorem weakL_snoc (ws : List Int) (D : List Nat) (p : Nat) : weakL ws (D ++ [p]) = weakL ws D ++ weakP ws p := by
  unfold weakL; rw [List.flatMap_append]; simp
theorem weakPos_visit {ws : List Int} {ord : List Nat} {l : List (Nat × Nat)} (h : ∀ x ∈ l, x.1 ∈ ord) (o : Int) : weakPos ws (visit ord o) l = weakPos ws ord l :=
  List.map_congr_left fun x hx => by rw [toO_visit (h x hx) o]
theorem weakL_nodup (ws : List Int) : ∀ {D : List Nat}, D.Nodup → (weakL ws D).Nodup
  | [], _ => List.nodup_nil
  | p :: D, h => by
    obtain ⟨h1, h2⟩ := List.nodup_cons.1 h
    show (weakP ws p ++ weakL ws D).Nodup
    rw [List.nodup_append]
    refine ⟨?_, weakL_nodup ws h2, ?_⟩
    · unfold weakP; split
      · exact List.pairwise_map.2 ((List.nodup_range).imp fun {a b} hab e => hab (by simp at e; omega))
      · exact List.nodup_nil
    · rintro x hx y hy rfl
      exact h1 ((weakP_mem.1 hx).2.1 ▸ (weakL_mem.1 hy).1)
/-- The words turned when t of the weak ones are. -/
def weakC (ws : List Int) (ord : List Nat) (t : Nat) (q i : Nat) : Prop := strongI ws q i ∨ (q, i) ∈ (weakL ws ord).take t
theorem weak_start {ws : List Int} {ord D : List Nat} {p : Nat} {xs : List Int} (h : Scan ws ord D p 0 xs) (hD : ∀ q ∈ ord, q ∈ D) : PartW ws ord (weakC ws ord 0) xs :=
  h.part.same fun q hq i hi => by
    unfold scanC weakC
    constructor
    · rintro ⟨a, _⟩; exact .inl a
    · rintro (a | a)
      · exact ⟨a, .inl (hD q hq)⟩
      · simp at a
theorem weak_step {ws : List Int} {ord : List Nat} {xs : List Int} (hn : ord.Nodup) {t : Nat} (h : PartW ws ord (weakC ws ord t) xs) (ht : t < (weakL ws ord).length) :
    ∃ q i, (weakL ws ord)[t]'ht = (q, i) ∧ q ∈ ord ∧ i < szT ws q ∧ formOf ws q = 2 ∧ 3 ≤ i ∧ nth xs (toO ws ord q + i) = nth ws (q + i) ∧
      PartW ws ord (weakC ws ord (t + 1)) (xs.set (toO ws ord q + i) (nowO (toO ws ord) (nth ws (q + i)))) := by
  rcases hx : (weakL ws ord)[t]'ht with ⟨q, i⟩
  have hm : (q, i) ∈ weakL ws ord := by rw [← hx]; exact List.getElem_mem ht
  obtain ⟨h1, h2, k, hk, h3⟩ := weakL_mem.1 hm
  dsimp only at h1 h2 hk h3
  have hsz : szT ws q = 3 + slotsN ws q := rfl
  have hnot : ¬ weakC ws ord t q i := by
    rintro (a | a)
    · rcases a with a | ⟨_, a⟩ <;> omega
    · have hnd := weakL_nodup ws hn
      obtain ⟨j, hj, e⟩ := List.getElem_of_mem a
      rw [List.length_take] at hj
      rw [List.getElem_take, ← hx] at e
      have := (List.pairwise_iff_getElem.1 hnd) j t (by omega) ht (by omega)
      exact this e
  refine ⟨q, i, rfl, h1, by omega, h2, by omega, h.no q h1 i (by omega) hnot, h.set h1 (by omega) ?_⟩
  intro q' hq' i' hi'
  unfold weakC
  rw [List.take_succ_eq_append_getElem ht, hx]
  constructor
  · rintro (a | a)
    · exact .inl (.inl a)
    · rcases List.mem_append.1 a with a | a
      · exact .inl (.inr a)
      · rw [List.mem_singleton] at a
        simp at a
        exact .inr a
  · rintro ((a | a) | ⟨rfl, rfl⟩)
    · exact .inl a
    · exact .inr (List.mem_append_left _ a)
    · exact .inr (by simp)
theorem weak_end {ws : List Int} {ord : List Nat} {xs : List Int} (ho : Ordr ws ord) (h : PartW ws ord (weakC ws ord (weakL ws ord).length) xs) : xs = arrW ws ord := by
  refine PartW.fin (h.same fun q hq i hi => ?_) ho.nodup ho.bad
  have hb := not_bad (ho.bad q hq)
  have hf : formOf ws q = nth ws (q + 2) % 4 := rfl
  have hsz : szT ws q = 3 + slotsN ws q := rfl
  unfold weakC refI
  rw [List.take_length, weakL_mem]
  constructor
  · rintro ((a | ⟨a, b⟩) | ⟨a, b, k, c, d⟩)
    · exact .inl a
    · exact .inr ⟨a, by omega⟩
    · dsimp only at b d
      exact .inr ⟨by omega, by omega⟩
  · rintro (a | ⟨a, b⟩)
    · exact .inl (.inl a)
    · by_cases h0 : formOf ws q = 0
      · exact .inl (.inr ⟨a, h0⟩)
      · exact .inr ⟨hq, by dsimp only; omega, i - 3, by dsimp only; omega, by dsimp only; omega⟩

theorem Scan.visit0 {ws : List Int} {ord D : List Nat} {p : Nat} {xs : List Int} (h : Scan ws ord D p 0 xs) {o : Int} (ho : fitsB ws o = true) : Scan ws (Go.Proofs.Ytjpppdacamhhfaa.visit ord o) D p 0 (pushL ws ord o xs) :=
  ⟨h.ordr.visit ho, h.part.visit ho h.all_tgt (fun hk hn i hi hc => by
    rcases hc.2 with hd | ⟨_, e⟩
    · exact hn (h.done _ hd).1
    · exact Nat.not_lt_zero _ e), fun q hq => ⟨visit_keep (h.done q hq).1, (h.done q hq).2.visit o⟩, h.here, fun i hi => absurd hi (Nat.not_lt_zero _)⟩
theorem scan_start (ws : List Int) : Scan ws [] [] 0 0 [nth ws 0, nth ws 1] :=
  ⟨Ordr.nil ws, (PartW.start ws).same (fun q hq => by simp at hq), fun q hq => by simp at hq, by simp, fun i hi => absurd hi (Nat.not_lt_zero _)⟩
theorem offO_at (ws : List Int) {p : Nat} : ∀ (a b : List Nat) (t : Nat), p ∉ a → offO ws (a ++ p :: b) t p = endO ws a t
  | [], b, t, _ => by simp [offO, endO]
  | x :: a, b, t, h => by
    simp only [List.cons_append, offO, endO]
    rw [if_neg (fun e => h (by rw [e]; exact List.mem_cons_self))]
    exact offO_at ws a b _ (fun e => h (List.mem_cons_of_mem _ e))
/-- The k-th thing of an order lies behind those ahead of it. -/
theorem toO_at {ws : List Int} {ord : List Nat} (hn : ord.Nodup) {k : Nat} (hk : k < ord.length) : toO ws ord ord[k] = endO ws (ord.take k) 2 ∧ ord[k] ∉ ord.take k ∧ ord.take (k + 1) = ord.take k ++ [ord[k]] := by
  have h1 : ord.take (k + 1) = ord.take k ++ [ord[k]] := List.take_succ_eq_append_getElem hk
  have h2 : ord[k] ∉ ord.take k := fun hm => by
    obtain ⟨j, hj, e⟩ := List.getElem_of_mem hm
    rw [List.length_take] at hj
    rw [List.getElem_take] at e
    exact (List.pairwise_iff_getElem.1 hn) j k (by omega) hk (by omega) e
  refine ⟨?_, h2, h1⟩
  have h3 : ord = ord.take k ++ ord[k] :: ord.drop (k + 1) := by
    rw [← List.drop_eq_getElem_cons hk, List.take_append_drop]
  unfold toO
  conv => lhs; arg 2; rw [h3]
  exact offO_at ws _ _ 2 h2
theorem pre_take {a b : List Nat} (h : a <+: b) {k : Nat} (hk : k ≤ a.length) : b.take k = a.take k := by
  obtain ⟨c, rfl⟩ := h
  rw [List.take_append_of_le_length hk]
theorem zero_out {ws : List Int} {ord : List Nat} (h : Ordr ws ord) (k : Nat) : 0 ∉ ord.take k := fun hm => by
  have := (places_mem (h.pl 0 (List.mem_of_mem_take hm))).1
  omega
theorem weakP_len {ws : List Int} {p : Nat} (h : formOf ws p = 2) : (weakP ws p).length = slotsN ws p := by unfold weakP; rw [if_pos h]; simp
theorem weakP_take {ws : List Int} {p j : Nat} (h : formOf ws p = 2) (hj : j < slotsN ws p) : (weakP ws p).take (j + 1) = (weakP ws p).take j ++ [(p, 3 + j)] := by
  rw [List.take_succ_eq_append_getElem (by rw [weakP_len h]; exact hj)]
  congr 2
  unfold weakP
  simp only [h, if_true, List.getElem_map, List.getElem_range]

theorem scan_end {ws : List Int} {ord ord2 : List Nat} {xs : List Int} {p k AT : Nat} (hpre : ord <+: ord2) (hk : k < ord.length) (ht : ord.take (k + 1) = ord.take k ++ [p]) (hat : endO ws (ord.take k) 2 = AT)
    (hs : Scan ws ord2 (ord.take k) p (szT ws p) xs) (hp : p ∈ ord2) :
    Scan ws ord2 (ord2.take (k + 1)) 0 0 xs ∧ endO ws (ord2.take (k + 1)) 2 = AT + szT ws p ∧ k + 1 ≤ ord2.length ∧ weakL ws (ord2.take (k + 1)) = weakL ws (ord.take k) ++ weakP ws p := by
  have hl := hpre.length_le
  have h1 : ord2.take (k + 1) = ord.take k ++ [p] := (pre_take hpre (by omega)).trans ht
  rw [h1]
  refine ⟨hs.next hp ?_, by rw [endO_snoc, hat], by omega, weakL_snoc ws _ _⟩
  rw [← h1]
  exact zero_out hs.ordr (k + 1)
theorem visits_pre' (l : List Int) (ord : List Nat) : ord <+: visits ord l := visits_pre l ord
theorem weakP_no {ws : List Int} {p : Nat} (h : formOf ws p ≠ 2) : weakP ws p = [] := by unfold weakP; rw [if_neg h]
theorem weakPos_app (ws : List Int) (ord : List Nat) (a b : List (Nat × Nat)) : weakPos ws ord (a ++ b) = weakPos ws ord a ++ weakPos ws ord b := by unfold weakPos; rw [List.map_append]

theorem toO_visits {ws : List Int} {p : Nat} : ∀ (l : List Int) {ord : List Nat}, p ∈ ord → toO ws (visits ord l) p = toO ws ord p
  | [], _, _ => rfl
  | o :: l, ord, hp => (toO_visits l (visit_keep hp)).trans (toO_visit hp o)

theorem set_id {xs : List Int} {j : Nat} {v : Int} (h : nth xs j = v) : xs.set j v = xs := by
  apply list_ext_nth
  · simp
  · intro k hk
    rw [nth_set_]
    split
    · rename_i e; rw [← e.1, h]
    · rfl
theorem weakPos_nth {ws : List Int} {ord : List Nat} {l : List (Nat × Nat)} {t : Nat} (ht : t < l.length) {q i : Nat} (h : l[t]'ht = (q, i)) : nth (weakPos ws ord l) t = ((toO ws ord q + i : Nat) : Int) := by
  unfold weakPos
  rw [nth_eq (by simpa using ht), List.getElem_map, h]

theorem weakL_few {ws : List Int} : ∀ {D : List Nat}, (∀ q ∈ D, badB ws q = false) → (weakL ws D).length ≤ 60 * D.length
  | [], _ => by simp [weakL]
  | q :: D, hb => by
    have h2 := weakL_few (D := D) (fun r hr => hb r (List.mem_cons_of_mem _ hr))
    have h3 := not_bad (hb q List.mem_cons_self)
    have h4 : slotsN ws q = (nth ws (q + 2) / 4).toNat := rfl
    show (weakP ws q ++ weakL ws D).length ≤ _
    rw [List.length_append, List.length_cons]
    have h5 : (weakP ws q).length ≤ 60 := by
      unfold weakP; split
      · simp; omega
      · simp
    omega

end Go.Proofs.Ytjpppdacamhhfaa
