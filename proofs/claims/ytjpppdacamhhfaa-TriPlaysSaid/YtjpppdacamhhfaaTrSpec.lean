/- Plain laws of colours: nothing that is reached is freed, what was not reached at first is. No program in sight. Conditions: none. -/
import Derived.Test.YtjpppdacamhhfaaMSpec
import Derived.Test.YtjpppdacamhhfaaHSpec4
namespace Go.Proofs.Ytjpppdacamhhfaa
set_option linter.unusedVariables false

/-- A list of what is reached. -/
theorem chen_iff {ws rs : List Int} {K : Nat} (hk : (chen ws rs K).length ≤ K) (p : Nat) : p ∈ chen ws rs K ↔ Rch ws rs p := by
  refine ⟨chen_rch K, fun h => ?_⟩
  refine h.least (S := fun p => p ∈ chen ws rs K) (fun o ho h3 => ?_) (fun q hq o ho h3 => ?_)
  · exact (chen_le ws rs (Nat.zero_le K)).subset (visits_mem.2 (.inr ⟨o, ho, h3, rfl⟩))
  · obtain ⟨j, hj, rfl⟩ := List.getElem_of_mem hq
    have hl : j < (chen ws rs j).length := by
      refine Classical.byContradiction fun hn => ?_
      have := chen_stop (by omega : (chen ws rs j).length ≤ j) (by omega : j ≤ K)
      rw [this] at hj; omega
    have he : (chen ws rs j)[j] = (chen ws rs K)[j] := ((chen_le ws rs (by omega : j ≤ K)).getElem hl)
    have hs : chen ws rs (j + 1) = visits (chen ws rs j) (holdsL ws (chen ws rs j)[j]) := by
      rw [chen, if_pos hl, getD_el hl]
    refine (chen_le ws rs (by omega : j + 1 ≤ K)).subset ?_
    rw [hs, he]
    exact visits_mem.2 (.inr ⟨o, ho, h3, rfl⟩)
theorem nodup_leT {l m : List Nat} (hn : l.Nodup) (h : ∀ x ∈ l, x ∈ m) : l.length ≤ m.length := by
  induction l generalizing m with
  | nil => simp
  | cons a l ih =>
    rw [List.nodup_cons] at hn
    have ha := h a (by simp)
    have := ih (m := m.erase a) hn.2 (fun x hx => (List.mem_erase_of_ne (by rintro rfl; exact hn.1 hx)).2 (h x (by simp [hx])))
    rw [List.length_erase_of_mem ha] at this
    have := List.length_pos_of_mem ha
    simp; omega
theorem places_le (ws : List Int) : (places ws).length ≤ ws.length := by
  have h := nodup_leT (places_nodup ws) (m := List.range ws.length) (fun x hx => List.mem_range.2 (places_mem hx).2.1)
  simpa using h
/-- Is a place reached? -/
def rchB (ws rs : List Int) (p : Nat) : Bool := decide (p ∈ chen ws rs ws.length)
theorem rchB_iff {ws rs : List Int} (hok : OkH ws) (hr : ∀ o ∈ rs, fitsB ws o = true) (p : Nat) : rchB ws rs p = true ↔ Rch ws rs p := by
  unfold rchB
  rw [decide_eq_true_iff]
  refine chen_iff ?_ p
  refine Nat.le_trans (nodup_leT (chen_nodup ws rs _) (m := places ws) (fun x hx => (chen_rch _ hx).pl hok hr)) (places_le ws)
/-- Is a reference small, nil, or of what is reached? -/
def hereB (ws rs : List Int) (o : Int) : Bool := fitsB ws o && (kd o != 3 || rchB ws rs (pcl o))

structure TOp where
  k : Int
  o : Int
  a : Int
  w : Int
  f : Int
  s : Int
/-- A heap, its roots, the colours of its places. -/
structure TSt where
  ws : List Int
  rs : List Int
  col : Nat → Int
def upd (col : Nat → Int) (p : Nat) (c : Int) : Nat → Int := fun q => if q = p then c else col q
def shadeC (col : Nat → Int) (o : Int) : Nat → Int := if kd o = 3 ∧ col (pcl o) = 0 then upd col (pcl o) 1 else col
def shades (col : Nat → Int) (l : List Int) : Nat → Int := l.foldl shadeC col
/-- The lowest grey one. -/
def greyAt (ws : List Int) (col : Nat → Int) : Option Nat := (places ws).find? fun p => col p == 1
def scanC (ws : List Int) (col : Nat → Int) : Nat → Int :=
  match greyAt ws col with
  | some p => upd (shades col (holdsL ws p)) p 2
  | none => col
/-- May a slot be changed? -/
def putOk (s : TSt) (op : TOp) : Bool := putE s.ws op.o op.a op.w == 0 && (hereB s.ws s.rs op.o && (formOf s.ws (pcl op.o) == 1 || hereB s.ws s.rs op.w))
def doT (s : TSt) (op : TOp) : TSt :=
  if op.k = 1 then ⟨s.ws, s.rs, scanC s.ws s.col⟩
  else if op.k = 2 then
    if putOk s op = true then ⟨putW s.ws op.o op.a op.w, s.rs, if formOf s.ws (pcl op.o) = 0 then shadeC s.col (nth (slotsL s.ws (pcl op.o)) op.a.toNat) else s.col⟩ else s
  else if op.k = 3 then
    if newE s.ws 0 op.f op.s = 0 then ⟨newW s.ws 0 op.f op.s, s.rs ++ [2 * (s.ws.length : Int)], upd s.col s.ws.length 2⟩ else s
  else if op.k = 4 then
    if 0 ≤ op.a ∧ op.a < s.rs.length ∧ hereB s.ws s.rs op.w = true then ⟨s.ws, s.rs.set op.a.toNat op.w, shadeC s.col (nth s.rs op.a.toNat)⟩ else s
  else s
def startT (ws rs : List Int) : TSt := ⟨ws, rs, shades (fun _ => 0) rs⟩
def playT (ws rs : List Int) (ops : List TOp) : TSt := ops.foldl doT (startT ws rs)
def doneB (s : TSt) : Bool := (places s.ws).all fun p => s.col p != 1
def colsL (s : TSt) : List Int := (places s.ws).map s.col
def whiteL (s : TSt) : List Int := ((places s.ws).filter fun p => s.col p == 0).map fun (p : Nat) => 2 * (p : Int)
def freedL (s : TSt) : List Int := if doneB s = true then whiteL s else []

theorem upd_same (col : Nat → Int) (p : Nat) (c : Int) : upd col p c p = c := by simp [upd]
theorem upd_ne (col : Nat → Int) {p q : Nat} (c : Int) (h : q ≠ p) : upd col p c q = col q := by simp [upd, h]
theorem shadeC_at (col : Nat → Int) (o : Int) (p : Nat) : shadeC col o p = if col p = 0 ∧ kd o = 3 ∧ pcl o = p then 1 else col p := by
  unfold shadeC
  by_cases h : kd o = 3 ∧ col (pcl o) = 0
  · rw [if_pos h]
    by_cases e : p = pcl o
    · subst e; rw [upd_same, if_pos ⟨h.2, h.1, rfl⟩]
    · rw [upd_ne _ _ e, if_neg (fun h2 => e h2.2.2.symm)]
  · rw [if_neg h, if_neg]
    rintro ⟨h1, h2, rfl⟩
    exact h ⟨h2, h1⟩
theorem shades_at : ∀ (l : List Int) (col : Nat → Int) (p : Nat), shades col l p = if col p = 0 ∧ (∃ o, o ∈ l ∧ kd o = 3 ∧ pcl o = p) then 1 else col p
  | [], col, p => by simp [shades]
  | a :: l, col, p => by
    show shades (shadeC col a) l p = _
    rw [shades_at l, shadeC_at]
    by_cases h0 : col p = 0
    · by_cases h1 : kd a = 3 ∧ pcl a = p
      · rw [if_pos (show col p = 0 ∧ kd a = 3 ∧ pcl a = p from ⟨h0, h1⟩), if_neg (fun h => absurd h.1 (by decide)), if_pos ⟨h0, a, by simp, h1⟩]
      · rw [if_neg (show ¬ (col p = 0 ∧ kd a = 3 ∧ pcl a = p) from fun h => h1 h.2)]
        by_cases h2 : ∃ o, o ∈ l ∧ kd o = 3 ∧ pcl o = p
        · rw [if_pos ⟨h0, h2⟩]
          obtain ⟨o, ho, h3⟩ := h2
          rw [if_pos ⟨h0, o, by simp [ho], h3⟩]
        · rw [if_neg (fun h => h2 h.2), if_neg]
          rintro ⟨-, o, ho, h3⟩
          rcases List.mem_cons.1 ho with rfl | ho
          · exact h1 h3
          · exact h2 ⟨o, ho, h3⟩
    · have e : (if col p = 0 ∧ kd a = 3 ∧ pcl a = p then (1 : Int) else col p) = col p := if_neg (fun h => h0 h.1)
      rw [e, if_neg (fun h => h0 h.1), if_neg (fun h => h0 h.1)]

/-- What a state is. -/
structure TOk (s : TSt) : Prop where
  ok : OkH s.ws
  fit : ∀ o ∈ s.rs, fitsB s.ws o = true
  three : ∀ p, s.col p = 0 ∨ s.col p = 1 ∨ s.col p = 2
  pl : ∀ p, s.col p ≠ 0 → p ∈ places s.ws
/-- Grey, or white and led to from a grey one by white ones. -/
inductive Wp (ws : List Int) (col : Nat → Int) : Nat → Prop where
  | grey (p : Nat) : col p = 1 → Wp ws col p
  | step (p : Nat) (o : Int) : Wp ws col p → o ∈ holdsL ws p → kd o = 3 → col (pcl o) = 0 → Wp ws col (pcl o)
def Prot (s : TSt) (p : Nat) : Prop := s.col p = 2 ∨ Wp s.ws s.col p
structure InvA (s : TSt) : Prop where
  roots : ∀ o ∈ s.rs, kd o = 3 → Prot s (pcl o)
  black : ∀ p, s.col p = 2 → ∀ o ∈ holdsL s.ws p, kd o = 3 → Prot s (pcl o)
theorem Wp.ne2 {ws : List Int} {col : Nat → Int} {p : Nat} (h : Wp ws col p) : col p = 0 ∨ col p = 1 := by
  cases h with
  | grey _ h => exact .inr h
  | step _ _ _ _ _ h => exact .inl h
theorem Wp.pl {s : TSt} (hs : TOk s) {p : Nat} (h : Wp s.ws s.col p) : p ∈ places s.ws := by
  induction h with
  | grey p h => exact hs.pl p (by omega)
  | step p o _ ho hk _ ih => exact fits_pl (holds_fits hs.ok ih ho) hk
theorem prot_rch {s : TSt} (hs : TOk s) (h : InvA s) {p : Nat} (hr : Rch s.ws s.rs p) : Prot s p := by
  refine hr.least (S := Prot s) h.roots (fun q hq o ho hk => ?_)
  rcases hq with hq | hq
  · exact h.black q hq o ho hk
  · rcases hs.three (pcl o) with h0 | h1 | h2
    · exact .inr (.step q o hq ho hk h0)
    · exact .inr (.grey _ h1)
    · exact .inl h2
theorem here_rch {s : TSt} (hs : TOk s) {o : Int} (h : hereB s.ws s.rs o = true) : fitsB s.ws o = true ∧ (kd o = 3 → Rch s.ws s.rs (pcl o)) := by
  unfold hereB at h
  rw [Bool.and_eq_true, Bool.or_eq_true, rchB_iff hs.ok hs.fit] at h
  refine ⟨h.1, fun hk => ?_⟩
  rcases h.2 with h2 | h2
  · rw [hk] at h2; cases h2
  · exact h2

/-- Where colours only rise, and what white ones lead to stays or is shaded. -/
theorem wp_mono {s t : TSt} (hs : TOk s) (h1 : ∀ p, s.col p = 1 → t.col p = 1) (h0 : ∀ p ∈ places s.ws, s.col p = 0 → t.col p = 0 ∨ t.col p = 1)
    (hh : ∀ p ∈ places s.ws, ∀ o ∈ holdsL s.ws p, kd o = 3 → s.col (pcl o) = 0 → o ∈ holdsL t.ws p ∨ t.col (pcl o) = 1) {p : Nat} (h : Wp s.ws s.col p) : Wp t.ws t.col p := by
  induction h with
  | grey p h => exact .grey p (h1 p h)
  | step p o hp ho hk hc ih =>
    have hpl := hp.pl hs
    have hq : pcl o ∈ places s.ws := fits_pl (holds_fits hs.ok hpl ho) hk
    rcases h0 _ hq hc with e | e
    · rcases hh p hpl o ho hk hc with h2 | h2
      · exact .step p o ih h2 hk e
      · exact .grey _ h2
    · exact .grey _ e
theorem prot_mono {s t : TSt} (hs : TOk s) (h2 : ∀ p, s.col p = 2 → t.col p = 2) (h1 : ∀ p, s.col p = 1 → t.col p = 1) (h0 : ∀ p ∈ places s.ws, s.col p = 0 → t.col p = 0 ∨ t.col p = 1)
    (hh : ∀ p ∈ places s.ws, ∀ o ∈ holdsL s.ws p, kd o = 3 → s.col (pcl o) = 0 → o ∈ holdsL t.ws p ∨ t.col (pcl o) = 1) {p : Nat} (h : Prot s p) : Prot t p := by
  rcases h with h | h
  · exact .inl (h2 p h)
  · exact .inr (wp_mono hs h1 h0 hh h)

theorem shade_rise (col : Nat → Int) (o : Int) : (∀ p, col p = 2 → shadeC col o p = 2) ∧ (∀ p, col p = 1 → shadeC col o p = 1) ∧ (∀ p, col p = 0 → shadeC col o p = 0 ∨ shadeC col o p = 1) := by
  refine ⟨fun p h => ?_, fun p h => ?_, fun p h => ?_⟩
  · rw [shadeC_at, if_neg (by omega), h]
  · rw [shadeC_at, if_neg (by omega), h]
  · rw [shadeC_at]; split
    · exact .inr rfl
    · exact .inl h
theorem shade_ok {ws : List Int} {col : Nat → Int} {o : Int} (h3 : ∀ p, col p = 0 ∨ col p = 1 ∨ col p = 2) (hp : ∀ p, col p ≠ 0 → p ∈ places ws) (hf : fitsB ws o = true) :
    (∀ p, shadeC col o p = 0 ∨ shadeC col o p = 1 ∨ shadeC col o p = 2) ∧ (∀ p, shadeC col o p ≠ 0 → p ∈ places ws) := by
  refine ⟨fun p => ?_, fun p h => ?_⟩
  · rw [shadeC_at]; split
    · exact .inr (.inl rfl)
    · exact h3 p
  · rw [shadeC_at] at h
    split at h
    · rename_i e
      obtain ⟨-, hk, rfl⟩ := e
      exact fits_pl hf hk
    · exact hp p h
theorem shades_ok {ws : List Int} : ∀ {l : List Int} {col : Nat → Int} (h3 : ∀ p, col p = 0 ∨ col p = 1 ∨ col p = 2) (hp : ∀ p, col p ≠ 0 → p ∈ places ws) (hf : ∀ o ∈ l, fitsB ws o = true),
    (∀ p, shades col l p = 0 ∨ shades col l p = 1 ∨ shades col l p = 2) ∧ (∀ p, shades col l p ≠ 0 → p ∈ places ws)
  | [], col, h3, hp, hf => ⟨h3, hp⟩
  | a :: l, col, h3, hp, hf => by
    obtain ⟨g1, g2⟩ := shade_ok h3 hp (hf a (by simp))
    exact shades_ok (l := l) g1 g2 (fun o ho => hf o (by simp [ho]))
theorem grey_some {ws : List Int} {col : Nat → Int} {g : Nat} (h : greyAt ws col = some g) : g ∈ places ws ∧ col g = 1 := by
  unfold greyAt at h
  exact ⟨List.mem_of_find?_eq_some h, by simpa using List.find?_some h⟩
theorem grey_none {ws : List Int} {col : Nat → Int} (h : greyAt ws col = none) : ∀ p ∈ places ws, col p ≠ 1 := by
  unfold greyAt at h
  intro p hp
  have := List.find?_eq_none.1 h p hp
  simpa using this

theorem scan_ok {s : TSt} (hs : TOk s) : TOk ⟨s.ws, s.rs, scanC s.ws s.col⟩ := by
  refine ⟨hs.ok, hs.fit, ?_, ?_⟩
  all_goals
    show ∀ p, _
    unfold scanC
    split
    · rename_i g hg
      obtain ⟨hgp, hg1⟩ := grey_some hg
      obtain ⟨g1, g2⟩ := shades_ok (l := holdsL s.ws g) hs.three hs.pl (fun o ho => holds_fits hs.ok hgp ho)
      intro p
      by_cases e : p = g
      · subst e; simp only [upd_same]; first | exact .inr (.inr trivial) | exact fun _ => hgp
      · simp only [upd_ne _ _ e]; first | exact g1 p | exact g2 p
    · first | exact hs.three | exact hs.pl
theorem scan_inv {s : TSt} (hs : TOk s) (h : InvA s) : InvA ⟨s.ws, s.rs, scanC s.ws s.col⟩ := by
  cases hg : greyAt s.ws s.col with
  | none =>
    have e : scanC s.ws s.col = s.col := by unfold scanC; rw [hg]
    rw [e]; exact h
  | some g =>
    have e : scanC s.ws s.col = upd (shades s.col (holdsL s.ws g)) g 2 := by unfold scanC; rw [hg]
    obtain ⟨hgp, hg1⟩ := grey_some hg
    rw [e]
    generalize ht : (⟨s.ws, s.rs, upd (shades s.col (holdsL s.ws g)) g 2⟩ : TSt) = t
    have tw : t.ws = s.ws := by rw [← ht]
    have tr : t.rs = s.rs := by rw [← ht]
    have hc : ∀ p, t.col p = if p = g then 2 else if s.col p = 0 ∧ (∃ o, o ∈ holdsL s.ws g ∧ kd o = 3 ∧ pcl o = p) then 1 else s.col p := fun p => by
      rw [← ht]
      show upd _ g 2 p = _
      by_cases e : p = g
      · subst e; rw [upd_same, if_pos rfl]
      · rw [upd_ne _ _ e, if_neg e, shades_at]
    have c2 : ∀ p, s.col p = 2 → t.col p = 2 := fun p hp => by
      rw [hc]; split
      · rfl
      · rw [if_neg (by omega), hp]
    have hW : ∀ p, Wp s.ws s.col p → Prot t p := fun p hw => by
      induction hw with
      | grey p hp =>
        by_cases e : p = g
        · exact .inl (by rw [hc, if_pos e])
        · exact .inr (.grey p (by rw [hc, if_neg e, if_neg (by omega), hp]))
      | step p o hp ho hk h0 ih =>
        have hne : pcl o ≠ g := by intro e; rw [e] at h0; omega
        by_cases he : ∃ o', o' ∈ holdsL s.ws g ∧ kd o' = 3 ∧ pcl o' = pcl o
        · exact .inr (.grey _ (by rw [hc, if_neg hne, if_pos ⟨h0, he⟩]))
        · have hq : t.col (pcl o) = 0 := by rw [hc, if_neg hne, if_neg (fun h => he h.2), h0]
          rcases ih with ih | ih
          · have hpg : p = g := by
              refine Classical.byContradiction fun hn => ?_
              rw [hc, if_neg hn] at ih
              split at ih
              · omega
              · have := hp.ne2; omega
            subst hpg
            exact absurd ⟨o, ho, hk, rfl⟩ he
          · exact .inr (.step p o ih (by rw [tw]; exact ho) hk hq)
    have hP : ∀ p, Prot s p → Prot t p := fun p hp => hp.elim (fun h => .inl (c2 p h)) (hW p)
    refine ⟨fun o ho hk => hP _ (h.roots o (by rw [tr] at ho; exact ho) hk), fun p hp o ho hk => ?_⟩
    rw [tw] at ho
    rw [hc] at hp
    by_cases e : p = g
    · subst e
      by_cases e2 : pcl o = p
      · exact .inl (by rw [hc, if_pos e2])
      · rcases hs.three (pcl o) with h0 | h1 | h2
        · exact .inr (.grey _ (by rw [hc, if_neg e2, if_pos ⟨h0, o, ho, hk, rfl⟩]))
        · exact .inr (.grey _ (by rw [hc, if_neg e2, if_neg (by omega), h1]))
        · exact .inl (c2 _ h2)
    · rw [if_neg e] at hp
      split at hp
      · omega
      · exact hP _ (h.black p hp o ho hk)
end Go.Proofs.Ytjpppdacamhhfaa
