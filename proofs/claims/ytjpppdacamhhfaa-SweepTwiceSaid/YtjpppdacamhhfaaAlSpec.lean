/- Two heaps held against each other by pairs: the plain law. Conditions: heaps that may be, roots that fit. -/
import Derived.Test.YtjpppdacamhhfaaRAlike
namespace Go.Proofs.Ytjpppdacamhhfaa
open Go.RowKit
set_option linter.unusedVariables false

/-- Two references are held against each other: may they be; the pairs then. -/
def alP (ps : List (Nat × Nat)) (o q : Int) : Bool × List (Nat × Nat) :=
  if kd o ≠ 3 ∨ kd q ≠ 3 then (decide (o = q), ps) else
  if (pcl o, pcl q) ∈ ps then (true, ps) else
  if pcl o ∈ ps.map Prod.fst ∨ pcl q ∈ ps.map Prod.snd then (false, ps) else (true, ps ++ [(pcl o, pcl q)])
def alAll : List (Nat × Nat) → List Int → List Int → Bool × List (Nat × Nat)
  | ps, a :: xs, b :: ys => if (alP ps a b).1 = true then alAll (alP ps a b).2 xs ys else (false, (alP ps a b).2)
  | ps, [], _ => (true, ps)
  | ps, _, [] => (true, ps)
def thP (ws vs : List Int) (ps : List (Nat × Nat)) (x y : Nat) : Bool × List (Nat × Nat) :=
  if nth ws (x + 1) ≠ nth vs (y + 1) then (false, ps) else
  if nth ws (x + 2) ≠ nth vs (y + 2) then (false, ps) else
  if (alP ps (nth ws x) (nth vs y)).1 = false then (false, (alP ps (nth ws x) (nth vs y)).2) else
  if formOf ws x = 0 then alAll (alP ps (nth ws x) (nth vs y)).2 (slotsL ws x) (slotsL vs y) else
  if formOf ws x = 1 then (decide (slotsL ws x = slotsL vs y), (alP ps (nth ws x) (nth vs y)).2) else (true, (alP ps (nth ws x) (nth vs y)).2)

/-- Two references are alike by the pairs. -/
def RelP (ps : List (Nat × Nat)) (o q : Int) : Prop := (kd o = 3 ∧ kd q = 3 ∧ (pcl o, pcl q) ∈ ps) ∨ ((kd o ≠ 3 ∨ kd q ≠ 3) ∧ o = q)
theorem RelP.mono {ps ps' : List (Nat × Nat)} (h : ps <+: ps') {o q : Int} (hr : RelP ps o q) : RelP ps' o q := by
  rcases hr with ⟨a, b, c⟩ | hr
  · exact .inl ⟨a, b, h.subset c⟩
  · exact .inr hr
theorem alP_pre (ps : List (Nat × Nat)) (o q : Int) : ps <+: (alP ps o q).2 := by
  unfold alP
  split
  · exact List.prefix_rfl
  · split
    · exact List.prefix_rfl
    · split
      · exact List.prefix_rfl
      · exact List.prefix_append _ _
theorem alP_true {ps : List (Nat × Nat)} {o q : Int} (h : (alP ps o q).1 = true) : RelP (alP ps o q).2 o q := by
  unfold alP at h ⊢
  by_cases h1 : kd o ≠ 3 ∨ kd q ≠ 3
  · rw [if_pos h1] at h ⊢
    exact .inr ⟨h1, by simpa using h⟩
  · rw [if_neg h1] at h ⊢
    have ho : kd o = 3 := Classical.byContradiction fun e => h1 (.inl e)
    have hq : kd q = 3 := Classical.byContradiction fun e => h1 (.inr e)
    by_cases h2 : (pcl o, pcl q) ∈ ps
    · rw [if_pos h2]; exact .inl ⟨ho, hq, h2⟩
    · rw [if_neg h2] at h ⊢
      by_cases h3 : pcl o ∈ ps.map Prod.fst ∨ pcl q ∈ ps.map Prod.snd
      · rw [if_pos h3] at h; cases h
      · rw [if_neg h3]; exact .inl ⟨ho, hq, by simp⟩
theorem alAll_pre : ∀ (ps : List (Nat × Nat)) (xs ys : List Int), ps <+: (alAll ps xs ys).2
  | ps, a :: xs, b :: ys => by
    rw [alAll]
    split
    · exact (alP_pre ps a b).trans (alAll_pre _ xs ys)
    · exact alP_pre ps a b
  | ps, [], [] => by rw [alAll]; exact List.prefix_rfl
  | ps, [], b :: ys => by rw [alAll]; exact List.prefix_rfl
  | ps, a :: xs, [] => by rw [alAll]; exact List.prefix_rfl; simp
theorem nth_cons_zero (a : Int) (l : List Int) : nth (a :: l) 0 = a := rfl
theorem alAll_true : ∀ {ps : List (Nat × Nat)} {xs ys : List Int}, xs.length = ys.length → (alAll ps xs ys).1 = true → ∀ j, j < xs.length → RelP (alAll ps xs ys).2 (nth xs j) (nth ys j)
  | ps, a :: xs, b :: ys, hl, h => by
    rw [alAll] at h ⊢
    by_cases hc : (alP ps a b).1 = true
    · rw [if_pos hc] at h ⊢
      intro j hj
      cases j with
      | zero => exact (alP_true hc).mono (alAll_pre _ xs ys)
      | succ j => exact alAll_true (by simpa using hl) h j (by simpa using hj)
    · rw [if_neg hc] at h; cases h
  | ps, [], ys, hl, h => fun j hj => absurd hj (by simp)
  | ps, a :: xs, [], hl, h => by simp at hl

/-- No thing is given twice; both are reached. -/
structure PairsI (f g : Nat → Bool) (ps : List (Nat × Nat)) : Prop where
  fn : (ps.map Prod.fst).Nodup
  sn : (ps.map Prod.snd).Nodup
  rch : ∀ x y, (x, y) ∈ ps → f x = true ∧ g y = true
theorem PairsI.nil (f g : Nat → Bool) : PairsI f g [] := ⟨by simp, by simp, fun x y h => by simp at h⟩
theorem PairsI.al {f g : Nat → Bool} {ps : List (Nat × Nat)} (h : PairsI f g ps) {o q : Int} (ho : kd o = 3 → f (pcl o) = true) (hq : kd q = 3 → g (pcl q) = true) : PairsI f g (alP ps o q).2 := by
  unfold alP
  by_cases h1 : kd o ≠ 3 ∨ kd q ≠ 3
  · rw [if_pos h1]; exact h
  · rw [if_neg h1]
    by_cases h2 : (pcl o, pcl q) ∈ ps
    · rw [if_pos h2]; exact h
    · rw [if_neg h2]
      by_cases h3 : pcl o ∈ ps.map Prod.fst ∨ pcl q ∈ ps.map Prod.snd
      · rw [if_pos h3]; exact h
      · rw [if_neg h3]
        refine ⟨?_, ?_, ?_⟩
        · rw [List.map_append]
          refine List.nodup_append.2 ⟨h.fn, by simp, fun a ha b hb => ?_⟩
          simp at hb; subst hb
          intro e; subst e; exact h3 (.inl ha)
        · rw [List.map_append]
          refine List.nodup_append.2 ⟨h.sn, by simp, fun a ha b hb => ?_⟩
          simp at hb; subst hb
          intro e; subst e; exact h3 (.inr ha)
        · intro x y hm
          rcases List.mem_append.1 hm with hm | hm
          · exact h.rch x y hm
          · simp at hm
            obtain ⟨rfl, rfl⟩ := hm
            exact ⟨ho (Classical.byContradiction fun e => h1 (.inl e)), hq (Classical.byContradiction fun e => h1 (.inr e))⟩
theorem PairsI.all {f g : Nat → Bool} : ∀ {ps : List (Nat × Nat)} {xs ys : List Int}, PairsI f g ps → (∀ o ∈ xs, kd o = 3 → f (pcl o) = true) → (∀ q ∈ ys, kd q = 3 → g (pcl q) = true) → PairsI f g (alAll ps xs ys).2
  | ps, a :: xs, b :: ys, h, ho, hq => by
    rw [alAll]
    have h1 := h.al (ho a List.mem_cons_self) (hq b List.mem_cons_self)
    split
    · exact PairsI.all h1 (fun o hm => ho o (List.mem_cons_of_mem _ hm)) (fun q hm => hq q (List.mem_cons_of_mem _ hm))
    · exact h1
  | ps, [], ys, h, ho, hq => by rw [alAll]; exact h
  | ps, a :: xs, [], h, ho, hq => by rw [alAll]; exact h; simp
theorem mem_fst {ps : List (Nat × Nat)} {x : Nat} (h : x ∈ ps.map Prod.fst) : ∃ y, (x, y) ∈ ps := by
  obtain ⟨⟨a, b⟩, hm, rfl⟩ := List.mem_map.1 h; exact ⟨b, hm⟩
theorem mem_snd {ps : List (Nat × Nat)} {y : Nat} (h : y ∈ ps.map Prod.snd) : ∃ x, (x, y) ∈ ps := by
  obtain ⟨⟨a, b⟩, hm, rfl⟩ := List.mem_map.1 h; exact ⟨a, hm⟩
theorem nodup_ix {l : List Nat} (h : l.Nodup) {i j : Nat} (hi : i < l.length) (hj : j < l.length) (e : l[i] = l[j]) : i = j := by
  have hp := List.pairwise_iff_getElem.1 h
  rcases Nat.lt_trichotomy i j with hl | hl | hl
  · exact absurd e (hp i j hi hj hl)
  · exact hl
  · exact absurd e.symm (hp j i hj hi hl)
theorem nodup_fst {ps : List (Nat × Nat)} (h : (ps.map Prod.fst).Nodup) {x y z : Nat} (h1 : (x, y) ∈ ps) (h2 : (x, z) ∈ ps) : y = z := by
  obtain ⟨i, hi, e1⟩ := List.getElem_of_mem h1
  obtain ⟨j, hj, e2⟩ := List.getElem_of_mem h2
  have : i = j := nodup_ix h (by simpa using hi) (by simpa using hj) (by rw [List.getElem_map, List.getElem_map, e1, e2])
  subst this
  rw [e1] at e2
  simpa using e2
theorem nodup_snd {ps : List (Nat × Nat)} (h : (ps.map Prod.snd).Nodup) {x y z : Nat} (h1 : (x, z) ∈ ps) (h2 : (y, z) ∈ ps) : x = y := by
  obtain ⟨i, hi, e1⟩ := List.getElem_of_mem h1
  obtain ⟨j, hj, e2⟩ := List.getElem_of_mem h2
  have : i = j := nodup_ix h (by simpa using hi) (by simpa using hj) (by rw [List.getElem_map, List.getElem_map, e1, e2])
  subst this
  rw [e1] at e2
  simpa using e2

/-- Who is given to each other has one hash. -/
def HashP (ws vs : List Int) (ps : List (Nat × Nat)) : Prop := ∀ x y, (x, y) ∈ ps → nth ws (x + 1) = nth vs (y + 1)
section
variable {ws rs vs qs : List Int} {f g : Nat → Bool} (hok : OkH ws) (hr : ∀ o ∈ rs, fitsB ws o = true) (hf : Tells ws rs f) (hok' : OkH vs) (hr' : ∀ o ∈ qs, fitsB vs o = true) (hg : Tells vs qs g)
include hok hr hf hok' hr' hg
theorem alP_A {ps : List (Nat × Nat)} (hI : PairsI f g ps) (hH : HashP ws vs ps) {o q : Int} (hs : sameB ws f o vs g q = true) : (alP ps o q).1 = true ∧ HashP ws vs (alP ps o q).2 := by
  unfold alP
  unfold sameB at hs
  by_cases h1 : kd o ≠ 3 ∨ kd q ≠ 3
  · rw [if_neg (fun e => by rcases h1 with h | h; exact h e.1; exact h e.2)] at hs
    rw [if_pos h1]; exact ⟨hs, hH⟩
  · have ho : kd o = 3 := Classical.byContradiction fun e => h1 (.inl e)
    have hq : kd q = 3 := Classical.byContradiction fun e => h1 (.inr e)
    rw [if_pos ⟨ho, hq⟩] at hs
    simp only [Bool.and_eq_true, decide_eq_true_eq] at hs
    obtain ⟨⟨s1, s2⟩, s3⟩ := hs
    rw [if_neg h1]
    by_cases h2 : (pcl o, pcl q) ∈ ps
    · rw [if_pos h2]; exact ⟨rfl, hH⟩
    · rw [if_neg h2]
      have h3 : ¬ (pcl o ∈ ps.map Prod.fst ∨ pcl q ∈ ps.map Prod.snd) := by
        rintro (h | h)
        · obtain ⟨y, hy⟩ := mem_fst h
          have e := hashes_one hok' (tell_fit hok' hr' hg (hI.rch _ _ hy).2).1 (tell_fit hok' hr' hg s2).1 ((hH _ _ hy).symm.trans s3)
          rw [e] at hy; exact h2 hy
        · obtain ⟨x, hx⟩ := mem_snd h
          have e := hashes_one hok (tell_fit hok hr hf (hI.rch _ _ hx).1).1 (tell_fit hok hr hf s1).1 ((hH _ _ hx).trans s3.symm)
          rw [e] at hx; exact h2 hx
      rw [if_neg h3]
      refine ⟨rfl, fun x y hm => ?_⟩
      rcases List.mem_append.1 hm with hm | hm
      · exact hH x y hm
      · simp at hm
        obtain ⟨rfl, rfl⟩ := hm
        exact s3
omit hok hr hf hok' hr' hg in
theorem same_rch {o q : Int} (hs : sameB ws f o vs g q = true) : (kd o = 3 → f (pcl o) = true) ∧ (kd q = 3 → g (pcl q) = true) := by
  unfold sameB at hs
  by_cases h : kd o = 3 ∧ kd q = 3
  · rw [if_pos h] at hs
    simp only [Bool.and_eq_true, decide_eq_true_eq] at hs
    exact ⟨fun _ => hs.1.1, fun _ => hs.1.2⟩
  · rw [if_neg h] at hs
    have e : o = q := by simpa using hs
    subst e
    exact ⟨fun e => absurd ⟨e, e⟩ h, fun e => absurd ⟨e, e⟩ h⟩
theorem alAll_A : ∀ {xs ys : List Int} {ps : List (Nat × Nat)}, PairsI f g ps → HashP ws vs ps → xs.length = ys.length → (∀ j, j < xs.length → sameB ws f (nth xs j) vs g (nth ys j) = true) → (alAll ps xs ys).1 = true ∧ HashP ws vs (alAll ps xs ys).2
  | a :: xs, b :: ys, ps, hI, hH, hl, hs => by
    have h0 := hs 0 (by simp)
    rw [nth_cons_zero, nth_cons_zero] at h0
    have h1 := alP_A hok hr hf hok' hr' hg hI hH h0
    have h2 := same_rch h0
    rw [alAll, if_pos h1.1]
    exact alAll_A (hI.al h2.1 h2.2) h1.2 (by simpa using hl) (fun j hj => by
      have := hs (j + 1) (by simpa using hj)
      rwa [nth_cons_succ, nth_cons_succ] at this)
  | [], ys, ps, hI, hH, hl, hs => by rw [alAll]; exact ⟨rfl, hH⟩
  | a :: xs, [], ps, hI, hH, hl, hs => by simp at hl

/-- What the document's answer says of a pair. -/
theorem alike_thing (hA : alikeR ws rs f vs qs g = true) {x y : Nat} (hx : f x = true) (hy : g y = true) (e : nth ws (x + 1) = nth vs (y + 1)) : thingsB ws f x vs g y = true := by
  unfold alikeR at hA
  simp only [Bool.and_eq_true, decide_eq_true_eq] at hA
  obtain ⟨x1, x2⟩ := tell_fit hok hr hf hx
  obtain ⟨y1, y2⟩ := tell_fit hok' hr' hg hy
  have h := allTo_iff.1 hA.2 x (by omega)
  unfold thingAt at h
  rw [hx] at h
  simp only [Bool.not_true, Bool.false_or] at h
  obtain ⟨q, hq⟩ := hashF_ex (vs := vs) (g := g) (h := nth ws (x + 1)) hy e.symm vs.length 0 (by omega) (by omega)
  obtain ⟨q1, q2⟩ := hashF_some _ _ hq
  have eq : q = y := hashes_one hok' (tell_fit hok' hr' hg q1).1 y1 (q2.trans e)
  have hq' : hashed vs g (nth ws (x + 1)) = some q := hq
  rw [hq', eq] at h
  exact h
omit hok hr hf hok' hr' hg in
theorem alike_len (hA : alikeR ws rs f vs qs g = true) : rs.length = qs.length := by
  unfold alikeR at hA
  simp only [Bool.and_eq_true, decide_eq_true_eq] at hA
  exact hA.1.1.1
omit hok hr hf hok' hr' hg in
theorem alike_roots (hA : alikeR ws rs f vs qs g = true) : ∀ j, j < rs.length → sameB ws f (nth rs j) vs g (nth qs j) = true := by
  unfold alikeR at hA
  simp only [Bool.and_eq_true, decide_eq_true_eq] at hA
  exact fun j hj => allTo_iff.1 hA.1.2 j hj
omit hok hr hf hok' hr' hg in
theorem form_of_head {x y : Nat} (e : nth ws (x + 2) = nth vs (y + 2)) : formOf ws x = formOf vs y ∧ slotsN ws x = slotsN vs y := by
  unfold formOf slotsN; rw [e]; exact ⟨rfl, rfl⟩
theorem thP_A (hA : alikeR ws rs f vs qs g = true) {ps : List (Nat × Nat)} (hI : PairsI f g ps) (hH : HashP ws vs ps) {x y : Nat} (hm : (x, y) ∈ ps) : (thP ws vs ps x y).1 = true ∧ HashP ws vs (thP ws vs ps x y).2 := by
  obtain ⟨hx, hy⟩ := hI.rch x y hm
  have hh := hH x y hm
  have ht := alike_thing hok hr hf hok' hr' hg hA hx hy hh
  unfold thingsB at ht
  simp only [Bool.and_eq_true, decide_eq_true_eq] at ht
  obtain ⟨⟨t1, t2⟩, t3⟩ := ht
  obtain ⟨x1, x2⟩ := tell_fit hok hr hf hx
  obtain ⟨y1, y2⟩ := tell_fit hok' hr' hg hy
  have hbx := (places_mem x1).2.2
  have hby := (places_mem y1).2.2
  obtain ⟨f1, f2⟩ := form_of_head t1
  have h1 := alP_A hok hr hf hok' hr' hg hI hH t2
  have h2 := same_rch t2
  have hI1 := hI.al h2.1 h2.2
  have hsl : (slotsL ws x).length = (slotsL vs y).length := by rw [slotsL_len hbx, slotsL_len hby, f2]
  unfold thP
  rw [if_neg (fun e => e hh), if_neg (fun e => e t1), if_neg (by rw [h1.1]; decide)]
  by_cases e0 : formOf ws x = 0
  · rw [if_pos e0]
    refine alAll_A hok hr hf hok' hr' hg hI1 h1.2 hsl (fun j hj => ?_)
    rw [slotsL_len hbx] at hj
    have := allTo_iff.1 t3 j hj
    unfold slotB at this
    rw [if_neg (by rw [e0]; decide), if_neg (by rw [e0]; decide)] at this
    rw [slotsL_nth hbx hj, slotsL_nth hby (by omega)]
    exact this
  · rw [if_neg e0]
    by_cases e1 : formOf ws x = 1
    · rw [if_pos e1]
      refine ⟨?_, h1.2⟩
      have : slotsL ws x = slotsL vs y := by
        refine list_ext_nth hsl (fun j hj => ?_)
        rw [slotsL_len hbx] at hj
        have := allTo_iff.1 t3 j hj
        unfold slotB at this
        rw [if_pos e1] at this
        rw [slotsL_nth hbx hj, slotsL_nth hby (by omega)]
        simpa using this
      simp [this]
    · rw [if_neg e1]; exact ⟨rfl, h1.2⟩

/-- The pair's things are alike by the pairs (weak slots apart). -/
structure MatchP (ws vs : List Int) (ps : List (Nat × Nat)) (x y : Nat) : Prop where
  hash : nth ws (x + 1) = nth vs (y + 1)
  head : nth ws (x + 2) = nth vs (y + 2)
  class_ : RelP ps (nth ws x) (nth vs y)
  plain : formOf ws x = 0 → ∀ j, j < slotsN ws x → RelP ps (nth ws (x + 3 + j)) (nth vs (y + 3 + j))
  bytes : formOf ws x = 1 → ∀ j, j < slotsN ws x → nth ws (x + 3 + j) = nth vs (y + 3 + j)
omit hok hr hf hok' hr' hg in
theorem MatchP.mono {ps ps' : List (Nat × Nat)} (h : ps <+: ps') {x y : Nat} (hm : MatchP ws vs ps x y) : MatchP ws vs ps' x y :=
  ⟨hm.hash, hm.head, hm.class_.mono h, fun e j hj => (hm.plain e j hj).mono h, hm.bytes⟩
omit hok hr hf hok' hr' hg in
theorem thP_pre (ps : List (Nat × Nat)) (x y : Nat) : ps <+: (thP ws vs ps x y).2 := by
  unfold thP
  split
  · exact List.prefix_rfl
  · split
    · exact List.prefix_rfl
    · split
      · exact alP_pre _ _ _
      · split
        · exact (alP_pre _ _ _).trans (alAll_pre _ _ _)
        · split
          · exact alP_pre _ _ _
          · exact alP_pre _ _ _
theorem thP_true {ps : List (Nat × Nat)} (hI : PairsI f g ps) {x y : Nat} (hm : (x, y) ∈ ps) (h : (thP ws vs ps x y).1 = true) : MatchP ws vs (thP ws vs ps x y).2 x y := by
  obtain ⟨hx, hy⟩ := hI.rch x y hm
  obtain ⟨x1, x2⟩ := tell_fit hok hr hf hx
  obtain ⟨y1, y2⟩ := tell_fit hok' hr' hg hy
  have hbx := (places_mem x1).2.2
  have hby := (places_mem y1).2.2
  unfold thP at h ⊢
  by_cases e1 : nth ws (x + 1) ≠ nth vs (y + 1)
  · rw [if_pos e1] at h; cases h
  rw [if_neg e1] at h ⊢
  by_cases e2 : nth ws (x + 2) ≠ nth vs (y + 2)
  · rw [if_pos e2] at h; cases h
  rw [if_neg e2] at h ⊢
  have e1' := Classical.not_not.1 e1
  have e2' := Classical.not_not.1 e2
  obtain ⟨f1, f2⟩ := form_of_head e2'
  have hsl : (slotsL ws x).length = (slotsL vs y).length := by rw [slotsL_len hbx, slotsL_len hby, f2]
  by_cases e3 : (alP ps (nth ws x) (nth vs y)).1 = false
  · rw [if_pos e3] at h; cases h
  rw [if_neg e3] at h ⊢
  have hc := alP_true (by simpa using e3)
  by_cases e4 : formOf ws x = 0
  · rw [if_pos e4] at h ⊢
    refine ⟨e1', e2', hc.mono (alAll_pre _ _ _), fun _ j hj => ?_, fun e => by omega⟩
    have := alAll_true hsl h j (by rw [slotsL_len hbx]; exact hj)
    rwa [slotsL_nth hbx hj, slotsL_nth hby (by omega)] at this
  · rw [if_neg e4] at h ⊢
    by_cases e5 : formOf ws x = 1
    · rw [if_pos e5] at h ⊢
      refine ⟨e1', e2', hc, fun e => absurd e e4, fun _ j hj => ?_⟩
      have he : slotsL ws x = slotsL vs y := by simpa using h
      rw [← slotsL_nth hbx hj, he, slotsL_nth hby (by omega)]
    · rw [if_neg e5] at h ⊢
      exact ⟨e1', e2', hc, fun e => absurd e e4, fun e => absurd e e5⟩
omit hok hr hok' hr' in
theorem thP_inv {ps : List (Nat × Nat)} (hI : PairsI f g ps) {x y : Nat} (hm : (x, y) ∈ ps) : PairsI f g (thP ws vs ps x y).2 := by
  obtain ⟨hx, hy⟩ := hI.rch x y hm
  have hcx : ∀ o ∈ holdsL ws x, kd o = 3 → f (pcl o) = true := fun o ho hk => (hf _).2 (.step x o ((hf _).1 hx) ho hk)
  have hcy : ∀ o ∈ holdsL vs y, kd o = 3 → g (pcl o) = true := fun o ho hk => (hg _).2 (.step y o ((hg _).1 hy) ho hk)
  have h1 : PairsI f g (alP ps (nth ws x) (nth vs y)).2 := hI.al (hcx _ List.mem_cons_self) (hcy _ List.mem_cons_self)
  unfold thP
  split
  · exact hI
  · split
    · exact hI
    · rename_i e1 e2
      split
      · exact h1
      · split
        · rename_i e4
          have f1 := (form_of_head (Classical.not_not.1 e2)).1
          refine h1.all (fun o ho => hcx o ?_) (fun o ho => hcy o ?_)
          · unfold holdsL; rw [if_pos e4]; exact List.mem_cons_of_mem _ ho
          · unfold holdsL; rw [if_pos (by omega)]; exact List.mem_cons_of_mem _ ho
        · split
          · exact h1
          · exact h1

omit hok' hr' hg in
/-- All that is reached has been given. -/
theorem match_dom {ps : List (Nat × Nat)} (hI : PairsI f g ps) (hro : ∀ j, j < rs.length → RelP ps (nth rs j) (nth qs j)) (hm : ∀ x y, (x, y) ∈ ps → MatchP ws vs ps x y) {p : Nat} (h : f p = true) : p ∈ ps.map Prod.fst := by
  have key : ∀ a b, RelP ps a b → kd a = 3 → pcl a ∈ ps.map Prod.fst := fun a b hab hk => by
    rcases hab with ⟨_, _, h⟩ | ⟨h1, h2⟩
    · exact List.mem_map.2 ⟨_, h, rfl⟩
    · rw [← h2] at h1; exact absurd hk (by rcases h1 with h1 | h1 <;> exact h1)
  refine ((hf p).1 h).least (S := fun p => p ∈ ps.map Prod.fst) (fun o ho hk => ?_) (fun q hq o ho hk => ?_)
  · obtain ⟨i, hi, rfl⟩ := List.getElem_of_mem ho
    have := hro i hi
    rw [nth_eq hi] at this
    exact key _ _ this hk
  · obtain ⟨y, hy⟩ := mem_fst hq
    have hM := hm q y hy
    have hb := (places_mem (tell_fit hok hr hf (hI.rch q y hy).1).1).2.2
    rcases List.mem_cons.1 ho with rfl | ho
    · exact key _ _ hM.class_ hk
    · split at ho
      · rename_i hff
        obtain ⟨j, hj, rfl⟩ := (slotsL_mem hb).1 ho
        exact key _ _ (hM.plain hff j hj) hk
      · simp at ho
omit hok hr hf in
theorem match_ran {ps : List (Nat × Nat)} (hI : PairsI f g ps) (hl : rs.length = qs.length) (hro : ∀ j, j < rs.length → RelP ps (nth rs j) (nth qs j)) (hm : ∀ x y, (x, y) ∈ ps → MatchP ws vs ps x y) {p : Nat} (h : g p = true) : p ∈ ps.map Prod.snd := by
  have key : ∀ a b, RelP ps a b → kd b = 3 → pcl b ∈ ps.map Prod.snd := fun a b hab hk => by
    rcases hab with ⟨_, _, h⟩ | ⟨h1, h2⟩
    · exact List.mem_map.2 ⟨_, h, rfl⟩
    · rw [h2] at h1; exact absurd hk (by rcases h1 with h1 | h1 <;> exact h1)
  refine ((hg p).1 h).least (S := fun p => p ∈ ps.map Prod.snd) (fun o ho hk => ?_) (fun q hq o ho hk => ?_)
  · obtain ⟨i, hi, rfl⟩ := List.getElem_of_mem ho
    have := hro i (by omega)
    rw [nth_eq hi] at this
    exact key _ _ this hk
  · obtain ⟨x, hx⟩ := mem_snd hq
    have hM := hm x q hx
    have hb := (places_mem (tell_fit hok' hr' hg (hI.rch x q hx).2).1).2.2
    obtain ⟨f1, f2⟩ := form_of_head hM.head
    rcases List.mem_cons.1 ho with rfl | ho
    · exact key _ _ hM.class_ hk
    · split at ho
      · rename_i hff
        obtain ⟨j, hj, rfl⟩ := (slotsL_mem hb).1 ho
        exact key _ _ (hM.plain (by omega) j (by omega)) hk
      · simp at ho

omit hok hr hf hok' hr' hg in
theorem same_of_rel {ps : List (Nat × Nat)} (hI : PairsI f g ps) (hm : ∀ x y, (x, y) ∈ ps → nth ws (x + 1) = nth vs (y + 1)) {o q : Int} (h : RelP ps o q) : sameB ws f o vs g q = true := by
  unfold sameB
  rcases h with ⟨h1, h2, h3⟩ | ⟨h1, h2⟩
  · rw [if_pos ⟨h1, h2⟩]
    obtain ⟨a, b⟩ := hI.rch _ _ h3
    rw [a, b, hm _ _ h3]; simp
  · rw [if_neg (fun e => by rcases h1 with h | h; exact h e.1; exact h e.2)]
    simpa using h2
theorem alike_true {ps : List (Nat × Nat)} (hI : PairsI f g ps) (hl : rs.length = qs.length) (hro : ∀ j, j < rs.length → RelP ps (nth rs j) (nth qs j)) (hm : ∀ x y, (x, y) ∈ ps → MatchP ws vs ps x y)
    (hw : ∀ x y, (x, y) ∈ ps → formOf ws x = 2 → ∀ j, j < slotsN ws x → RelP ps (weakO f (nth ws (x + 3 + j))) (weakO g (nth vs (y + 3 + j)))) : alikeR ws rs f vs qs g = true := by
  have hhash : ∀ x y, (x, y) ∈ ps → nth ws (x + 1) = nth vs (y + 1) := fun x y h => (hm x y h).hash
  have hsame : ∀ {o q : Int}, RelP ps o q → sameB ws f o vs g q = true := fun h => same_of_rel hI hhash h
  have hdom : ∀ p, p ∈ ps.map Prod.fst ↔ f p = true := fun p => ⟨fun h => by obtain ⟨y, hy⟩ := mem_fst h; exact (hI.rch _ _ hy).1, fun h => match_dom hok hr hf hI hro hm h⟩
  have hran : ∀ p, p ∈ ps.map Prod.snd ↔ g p = true := fun p => ⟨fun h => by obtain ⟨y, hy⟩ := mem_snd h; exact (hI.rch _ _ hy).2, fun h => match_ran hok' hr' hg hI hl hro hm h⟩
  unfold alikeR
  simp only [Bool.and_eq_true, decide_eq_true_eq]
  refine ⟨⟨⟨hl, ?_⟩, ?_⟩, ?_⟩
  · rw [cnt_list hI.fn hdom (fun p hp => by have := (tell_fit hok hr hf ((hdom p).1 hp)).2; omega), cnt_list hI.sn hran (fun p hp => by have := (tell_fit hok' hr' hg ((hran p).1 hp)).2; omega), List.length_map, List.length_map]
  · exact allTo_iff.2 (fun j hj => hsame (hro j hj))
  · refine allTo_iff.2 (fun x hxl => ?_)
    unfold thingAt
    cases hx : f x
    · rfl
    · obtain ⟨y, hy⟩ := mem_fst ((hdom x).2 hx)
      have hM := hm x y hy
      have hgy := (hI.rch _ _ hy).2
      obtain ⟨x1, x2⟩ := tell_fit hok hr hf hx
      obtain ⟨y1, y2⟩ := tell_fit hok' hr' hg hgy
      obtain ⟨q, hq⟩ := hashF_ex (vs := vs) (g := g) (h := nth ws (x + 1)) hgy hM.hash.symm vs.length 0 (by omega) (by omega)
      obtain ⟨q1, q2⟩ := hashF_some _ _ hq
      have eq : q = y := hashes_one hok' (tell_fit hok' hr' hg q1).1 y1 (q2.trans hM.hash)
      have hq' : hashed vs g (nth ws (x + 1)) = some q := hq
      rw [hq', eq]
      simp only [Bool.not_true, Bool.false_or]
      unfold thingsB
      simp only [Bool.and_eq_true, decide_eq_true_eq]
      refine ⟨⟨hM.head, hsame hM.class_⟩, allTo_iff.2 (fun j hj => ?_)⟩
      unfold slotB
      by_cases e1 : formOf ws x = 1
      · rw [if_pos e1]; simpa using hM.bytes e1 j hj
      · rw [if_neg e1]
        by_cases e2 : formOf ws x = 2
        · rw [if_pos e2]; exact hsame (hw x y hy e2 j hj)
        · rw [if_neg e2]
          have hbad := not_bad (places_mem x1).2.2
          have e0 : formOf ws x = 0 := by unfold formOf at e1 e2 ⊢; omega
          exact hsame (hM.plain e0 j hj)
omit hok hr hf hok' hr' hg in
theorem alP_stay {ps : List (Nat × Nat)} {o q : Int} (h : kd o = 3 → pcl o ∈ ps.map Prod.fst) : (alP ps o q).2 = ps := by
  unfold alP
  split
  · rfl
  · rename_i h1
    split
    · rfl
    · rw [if_pos (.inl (h (Classical.byContradiction fun e => h1 (.inl e))))]
omit hok hr hf hok' hr' hg in
theorem alAll_stay : ∀ {xs ys : List Int} {ps : List (Nat × Nat)}, (∀ o ∈ xs, kd o = 3 → pcl o ∈ ps.map Prod.fst) → (alAll ps xs ys).2 = ps
  | a :: xs, b :: ys, ps, h => by
    have h1 := alP_stay (q := b) (h a List.mem_cons_self)
    rw [alAll, h1]
    split
    · exact alAll_stay (fun o ho => h o (List.mem_cons_of_mem _ ho))
    · rfl
  | [], ys, ps, h => by rw [alAll]
  | a :: xs, [], ps, h => by rw [alAll]; simp
omit hok hr hf hok' hr' hg in
theorem weakO_rch (f : Nat → Bool) (o : Int) (h : kd (weakO f o) = 3) : f (pcl (weakO f o)) = true := by
  unfold weakO at h ⊢
  by_cases hc : kd o = 3 ∧ f (pcl o) = false
  · rw [if_pos hc] at h; exact absurd h (by decide)
  · rw [if_neg hc] at h ⊢
    cases hff : f (pcl o)
    · exact absurd ⟨h, hff⟩ hc
    · rfl
/-- The weak slots of a pair. -/
def weakQ (ws vs : List Int) (f g : Nat → Bool) (ps : List (Nat × Nat)) (x y : Nat) : Bool := (alAll ps ((slotsL ws x).map (weakO f)) ((slotsL vs y).map (weakO g))).1
theorem weakQ_A (hA : alikeR ws rs f vs qs g = true) {ps : List (Nat × Nat)} (hI : PairsI f g ps) (hH : HashP ws vs ps) {x y : Nat} (hm : (x, y) ∈ ps) (h2 : formOf ws x = 2) : weakQ ws vs f g ps x y = true := by
  obtain ⟨hx, hy⟩ := hI.rch x y hm
  have ht := alike_thing hok hr hf hok' hr' hg hA hx hy (hH x y hm)
  unfold thingsB at ht
  simp only [Bool.and_eq_true, decide_eq_true_eq] at ht
  obtain ⟨⟨t1, t2⟩, t3⟩ := ht
  have hbx := (places_mem (tell_fit hok hr hf hx).1).2.2
  have hby := (places_mem (tell_fit hok' hr' hg hy).1).2.2
  obtain ⟨f1, f2⟩ := form_of_head t1
  refine (alAll_A hok hr hf hok' hr' hg hI hH (by rw [List.length_map, List.length_map, slotsL_len hbx, slotsL_len hby, f2]) (fun j hj => ?_)).1
  rw [List.length_map, slotsL_len hbx] at hj
  have := allTo_iff.1 t3 j hj
  unfold slotB at this
  rw [if_neg (by rw [h2]; decide), if_pos h2] at this
  rw [nth_map (by rw [slotsL_len hbx]; exact hj), nth_map (by rw [slotsL_len hby]; omega), slotsL_nth hbx hj, slotsL_nth hby (by omega)]
  exact this
theorem weakQ_true {ps : List (Nat × Nat)} (hI : PairsI f g ps) (hdom : ∀ p, f p = true → p ∈ ps.map Prod.fst) {x y : Nat} (hm : (x, y) ∈ ps) (hh : nth ws (x + 2) = nth vs (y + 2)) (h : weakQ ws vs f g ps x y = true) :
    ∀ j, j < slotsN ws x → RelP ps (weakO f (nth ws (x + 3 + j))) (weakO g (nth vs (y + 3 + j))) := by
  obtain ⟨hx, hy⟩ := hI.rch x y hm
  have hbx := (places_mem (tell_fit hok hr hf hx).1).2.2
  have hby := (places_mem (tell_fit hok' hr' hg hy).1).2.2
  obtain ⟨f1, f2⟩ := form_of_head hh
  intro j hj
  have hst : (alAll ps ((slotsL ws x).map (weakO f)) ((slotsL vs y).map (weakO g))).2 = ps := alAll_stay (fun o ho hk => by
    obtain ⟨s, hs, rfl⟩ := List.mem_map.1 ho
    exact hdom _ (weakO_rch f s hk))
  have := alAll_true (ps := ps) (by rw [List.length_map, List.length_map, slotsL_len hbx, slotsL_len hby, f2]) h j (by rw [List.length_map, slotsL_len hbx]; exact hj)
  rw [hst, nth_map (by rw [slotsL_len hbx]; exact hj), nth_map (by rw [slotsL_len hby]; omega), slotsL_nth hbx hj, slotsL_nth hby (by omega)] at this
  exact this
end
end Go.Proofs.Ytjpppdacamhhfaa
