/- Plain laws: what is reached, laid anew, may be, is all reached, and is alike to what was there. No program in sight. Conditions: none. -/
import Derived.Test.YtjpppdacamhhfaaASpec
namespace Go.Proofs.Ytjpppdacamhhfaa
set_option linter.unusedVariables false

/-- An order of what is reached. -/
structure OrdOf (ws rs : List Int) (ord : List Nat) : Prop where
  nodup : ord.Nodup
  iff : ∀ p, p ∈ ord ↔ Rch ws rs p

theorem nowO_no {to : Nat → Nat} {o : Int} (h : kd o ≠ 3) : nowO to o = o := if_neg h
theorem nowO_yes {to : Nat → Nat} {o : Int} (h : kd o = 3) : nowO to o = 2 * (to (pcl o) : Int) := if_pos h
theorem pcl_two (p : Nat) : pcl (2 * (p : Int)) = p := by unfold pcl; omega
theorem kd_two {p : Nat} (h2 : 2 ≤ p) (h : p < 2000) : kd (2 * (p : Int)) = 3 := by rw [kd_three]; omega
theorem fits_kd {ws vs : List Int} {o : Int} (h : fitsB ws o = true) (hk : kd o ≠ 3) : fitsB vs o = true := by
  have ht : isTh ws o = false := by
    cases e : isTh ws o
    · rfl
    · exact absurd (th_kd e) hk
  unfold fitsB at h ⊢
  rw [ht] at h
  simp at h
  rcases h with h | h <;> simp [h]

theorem to_out {ws : List Int} {ord : List Nat} {p : Nat} (hp : p ∉ ord) : toO ws ord p = 0 := offO_out ws ord 2 hp

section
variable {ws rs : List Int} {ord : List Nat} (hok : OkH ws) (hr : ∀ o ∈ rs, fitsB ws o = true) (ho : OrdOf ws rs ord)
include hok hr ho

theorem ord_pl {p : Nat} (hp : p ∈ ord) : p ∈ places ws := ((ho.iff p).1 hp).pl hok hr
theorem ord_bad : ∀ p ∈ ord, badB ws p = false := fun p hp => (places_mem (ord_pl hok hr ho hp)).2.2
theorem arr_len : (arrW ws ord).length = endO ws ord 2 := laid_len (ord_bad hok hr ho)
theorem arr_len_le : (arrW ws ord).length ≤ ws.length := by
  rw [arr_len hok hr ho, ← endO_places hok]
  exact endO_le ws _ _ 2 ho.nodup fun p hp => ord_pl hok hr ho hp
theorem arr_places : places (arrW ws ord) = posO ws ord 2 ∧ bad1 (arrW ws ord) = none := laid_places (ord_bad hok hr ho)
theorem arr_mem {q : Nat} : q ∈ places (arrW ws ord) ↔ ∃ p, p ∈ ord ∧ q = toO ws ord p := by
  rw [(arr_places hok hr ho).1]
  exact posO_mem ws ord 2 ho.nodup
theorem to_in {p : Nat} (hp : p ∈ ord) : toO ws ord p ∈ places (arrW ws ord) := (arr_mem hok hr ho).2 ⟨p, hp, rfl⟩
theorem to_bd {p : Nat} (hp : p ∈ ord) : 2 ≤ toO ws ord p ∧ toO ws ord p < 2000 := by
  have h1 := places_mem (to_in hok hr ho hp)
  have h2 := arr_len_le hok hr ho
  have h3 := hok.most
  omega
theorem arr_at {p i : Nat} (hp : p ∈ ord) (hi : i < szT ws p) : nth (arrW ws ord) (toO ws ord p + i) = nth (thingO (nowO (toO ws ord)) ws p) i := laid_nth (ord_bad hok hr ho) hp hi
theorem arr_head {p : Nat} (hp : p ∈ ord) : nth (arrW ws ord) (toO ws ord p) = nowO (toO ws ord) (nth ws p) ∧ nth (arrW ws ord) (toO ws ord p + 1) = nth ws (p + 1) ∧ nth (arrW ws ord) (toO ws ord p + 2) = nth ws (p + 2) := by
  have hs : 3 ≤ szT ws p := by unfold szT; omega
  exact ⟨arr_at hok hr ho (i := 0) hp (by omega), arr_at hok hr ho hp (by omega), arr_at hok hr ho hp (by omega)⟩
theorem arr_slot {p k : Nat} (hp : p ∈ ord) (hk : k < slotsN ws p) :
    nth (arrW ws ord) (toO ws ord p + 3 + k) = if formOf ws p = 1 then nth ws (p + 3 + k) else nowO (toO ws ord) (nth ws (p + 3 + k)) := by
  rw [Nat.add_assoc, arr_at hok hr ho hp (by unfold szT; omega)]
  exact thingO_slot (ord_bad hok hr ho p hp) hk
theorem arr_form {p : Nat} (hp : p ∈ ord) : formOf (arrW ws ord) (toO ws ord p) = formOf ws p := by unfold formOf; rw [(arr_head hok hr ho hp).2.2]
theorem arr_slots {p : Nat} (hp : p ∈ ord) : slotsN (arrW ws ord) (toO ws ord p) = slotsN ws p := by unfold slotsN; rw [(arr_head hok hr ho hp).2.2]

theorem now_kd {o : Int} (hk : kd o = 3) (hp : pcl o ∈ ord) : kd (nowO (toO ws ord) o) = 3 ∧ pcl (nowO (toO ws ord) o) = toO ws ord (pcl o) := by
  have hb := to_bd hok hr ho hp
  rw [nowO_yes hk]
  exact ⟨kd_two hb.1 hb.2, pcl_two _⟩
theorem now_th {o : Int} (hk : kd o = 3) (hp : pcl o ∈ ord) : isTh (arrW ws ord) (nowO (toO ws ord) o) = true := by
  have h2 := arr_len_le hok hr ho
  have h3 := hok.most
  rw [nowO_yes hk]
  exact isTh_of (to_in hok hr ho hp) (by omega)
theorem now_fits {o : Int} (hf : fitsB ws o = true) : fitsB (arrW ws ord) (nowO (toO ws ord) o) = true := by
  by_cases hk : kd o = 3
  · by_cases hp : pcl o ∈ ord
    · exact fits_of_th (now_th hok hr ho hk hp)
    · rw [nowO_yes hk, to_out hp]; exact fits_zero _
  · rw [nowO_no hk]; exact fits_kd hf hk

/-- What is laid may be. -/
theorem arr_ok : OkH (arrW ws ord) := by
  have hl := arr_len_le hok hr ho
  have hm := hok.most
  have hpl := arr_places hok hr ho
  have h1 : nth (arrW ws ord) 1 = nth ws 1 := laid_1 _ _ _
  refine ⟨?_, by omega, by rw [show nth (arrW ws ord) 0 = nth ws 0 from laid_0 _ _ _]; exact hok.w0, by rw [h1]; exact hok.w1, by rw [h1]; exact hok.w1m, hpl.2, ?_, ?_⟩
  · rw [arr_len hok hr ho]; exact endO_ge ws ord 2
  · intro q hq
    obtain ⟨p, hp, rfl⟩ := (arr_mem hok hr ho).1 hq
    have hO := hok.things p (ord_pl hok hr ho hp)
    obtain ⟨e0, e1, e2⟩ := arr_head hok hr ho hp
    refine ⟨?_, by rw [e1]; exact hO.hash1, by rw [e1, h1]; exact hO.hash2, ?_⟩
    · rw [e0]
      rcases hO.class_ with e | e
      · rw [e]; exact .inl rfl
      · have hk := th_kd e
        have hc : pcl (nth ws p) ∈ ord := (ho.iff _).2 (.step p _ ((ho.iff p).1 hp) (List.mem_cons_self) hk)
        exact .inr (now_th hok hr ho hk hc)
    · intro k hk
      rw [arr_slots hok hr ho hp] at hk
      rw [arr_slot hok hr ho hp hk, arr_form hok hr ho hp]
      have hs := hO.slots k hk
      unfold standsB at hs ⊢
      by_cases hf : formOf ws p = 1
      · rw [if_pos hf] at hs ⊢; rw [if_pos hf]; exact hs
      · rw [if_neg hf] at hs ⊢; rw [if_neg hf]; exact now_fits hok hr ho hs
  · rw [hpl.1]
    have hh := hok.hashes
    have key : ∀ (a : List Nat), a.Nodup → (∀ p ∈ a, p ∈ ord) → ∀ t, (∀ p ∈ a, offO ws a t p = toO ws ord p) → ((posO ws a t).map fun p => nth (arrW ws ord) (p + 1)) = a.map fun p => nth ws (p + 1) := by
      intro a
      induction a with
      | nil => intro _ _ _ _; rfl
      | cons p a ih =>
        intro hn hs t ht
        obtain ⟨n1, n2⟩ := List.nodup_cons.1 hn
        have e0 := ht p List.mem_cons_self
        unfold offO at e0
        rw [if_pos rfl] at e0
        rw [posO, List.map_cons, List.map_cons, ih n2 (fun q hq => hs q (List.mem_cons_of_mem _ hq)) (t + szT ws p)
          (fun q hq => by
            have := ht q (List.mem_cons_of_mem _ hq)
            unfold offO at this
            rwa [if_neg (fun e => n1 (by rw [e]; exact hq))] at this), e0, (arr_head hok hr ho (hs p List.mem_cons_self)).2.1]
    rw [key ord ho.nodup (fun _ h => h) 2 (fun _ _ => rfl)]
    exact (List.pairwise_map.2 ((List.Pairwise.and_mem.1 ho.nodup).imp fun {a b} hab => by
      intro e
      have ha := ord_pl hok hr ho hab.1
      have hb := ord_pl hok hr ho hab.2.1
      obtain ⟨i, hi, rfl⟩ := List.getElem_of_mem ha
      obtain ⟨j, hj, rfl⟩ := List.getElem_of_mem hb
      have hne : i ≠ j := fun e => hab.2.2 (by subst e; rfl)
      have hp := List.pairwise_iff_getElem.1 hh
      rcases Nat.lt_or_gt_of_ne hne with hl | hl
      · exact hp i j (by simpa using hi) (by simpa using hj) hl (by simpa using e)
      · exact hp j i (by simpa using hj) (by simpa using hi) hl (by simpa using e.symm)))

theorem arrR_fits : ∀ o ∈ arrR ws rs ord, fitsB (arrW ws ord) o = true := by
  intro o h
  obtain ⟨x, hx, rfl⟩ := List.mem_map.1 h
  exact now_fits hok hr ho (hr x hx)

theorem arr_slotsL {p : Nat} (hp : p ∈ ord) (hf : formOf ws p ≠ 1) : slotsL (arrW ws ord) (toO ws ord p) = (slotsL ws p).map (nowO (toO ws ord)) := by
  have hb := ord_bad hok hr ho p hp
  have hb' := (places_mem (to_in hok hr ho hp)).2.2
  have hs := arr_slots hok hr ho hp
  apply list_ext_nth
  · rw [List.length_map, slotsL_len hb, slotsL_len hb', hs]
  · intro j hj
    rw [slotsL_len hb', hs] at hj
    rw [slotsL_nth hb' (by omega), arr_slot hok hr ho hp hj, if_neg hf, nth_map (by rw [slotsL_len hb]; exact hj), slotsL_nth hb hj]
theorem arr_holds {p : Nat} (hp : p ∈ ord) : holdsL (arrW ws ord) (toO ws ord p) = (holdsL ws p).map (nowO (toO ws ord)) := by
  unfold holdsL
  rw [arr_form hok hr ho hp, (arr_head hok hr ho hp).1, List.map_cons]
  by_cases hf : formOf ws p = 0
  · rw [if_pos hf, if_pos hf, arr_slotsL hok hr ho hp (by omega)]
  · rw [if_neg hf, if_neg hf]; rfl

/-- What is laid is all reached. -/
theorem arr_rch {p : Nat} (h : Rch ws rs p) : Rch (arrW ws ord) (arrR ws rs ord) (toO ws ord p) := by
  induction h with
  | root o h hk =>
    obtain ⟨k1, k2⟩ := now_kd hok hr ho hk ((ho.iff _).2 (.root o h hk))
    rw [← k2]
    exact .root _ (List.mem_map.2 ⟨o, h, rfl⟩) k1
  | step q o hq h hk ih =>
    obtain ⟨k1, k2⟩ := now_kd hok hr ho hk ((ho.iff _).2 (.step q o hq h hk))
    rw [← k2]
    refine .step _ _ ih ?_ k1
    rw [arr_holds hok hr ho ((ho.iff q).2 hq)]
    exact List.mem_map.2 ⟨o, h, rfl⟩
theorem arr_all {q : Nat} : Rch (arrW ws ord) (arrR ws rs ord) q ↔ q ∈ places (arrW ws ord) := by
  constructor
  · exact fun h => h.pl (arr_ok hok hr ho) (arrR_fits hok hr ho)
  · intro h
    obtain ⟨p, hp, rfl⟩ := (arr_mem hok hr ho).1 h
    exact arr_rch hok hr ho ((ho.iff p).1 hp)
end

/-! Alike, as the document says it. -/
/-- Is it so of all below n? -/
def allTo (P : Nat → Bool) : Nat → Bool
  | 0 => true
  | n + 1 => allTo P n && P n
theorem allTo_iff {P : Nat → Bool} : ∀ {n : Nat}, allTo P n = true ↔ ∀ k, k < n → P k = true
  | 0 => by simp [allTo]
  | n + 1 => by
    unfold allTo
    rw [Bool.and_eq_true, allTo_iff]
    constructor
    · rintro ⟨h1, h2⟩ k hk
      rcases Nat.lt_or_ge k n with h | h
      · exact h1 k h
      · obtain rfl : k = n := by omega
        exact h2
    · exact fun h => ⟨fun k hk => h k (by omega), h n (by omega)⟩
def sameB (ws : List Int) (f : Nat → Bool) (o : Int) (vs : List Int) (g : Nat → Bool) (q : Int) : Bool :=
  if kd o = 3 ∧ kd q = 3 then f (pcl o) && g (pcl q) && decide (nth ws (pcl o + 1) = nth vs (pcl q + 1)) else decide (o = q)
def weakO (f : Nat → Bool) (o : Int) : Int := if kd o = 3 ∧ f (pcl o) = false then 0 else o
def slotB (fm : Int) (ws : List Int) (f : Nat → Bool) (x : Int) (vs : List Int) (g : Nat → Bool) (y : Int) : Bool :=
  if fm = 1 then decide (x = y) else if fm = 2 then sameB ws f (weakO f x) vs g (weakO g y) else sameB ws f x vs g y
def thingsB (ws : List Int) (f : Nat → Bool) (p : Nat) (vs : List Int) (g : Nat → Bool) (q : Nat) : Bool :=
  decide (nth ws (p + 2) = nth vs (q + 2)) && sameB ws f (nth ws p) vs g (nth vs q) && allTo (fun k => slotB (formOf ws p) ws f (nth ws (p + 3 + k)) vs g (nth vs (q + 3 + k))) (slotsN ws p)
/-- The first of n places from k on that is marked and has the hash. -/
def hashF (vs : List Int) (g : Nat → Bool) (h : Int) : Nat → Nat → Option Nat
  | 0, _ => none
  | n + 1, k => if g k = true ∧ nth vs (k + 1) = h then some k else hashF vs g h n (k + 1)
def hashed (vs : List Int) (g : Nat → Bool) (h : Int) : Option Nat := hashF vs g h vs.length 0
def thingAt (ws : List Int) (f : Nat → Bool) (vs : List Int) (g : Nat → Bool) (p : Nat) : Bool :=
  !f p || (match hashed vs g (nth ws (p + 1)) with | none => false | some q => thingsB ws f p vs g q)
def alikeR (ws rs : List Int) (f : Nat → Bool) (vs qs : List Int) (g : Nat → Bool) : Bool :=
  decide (rs.length = qs.length) && decide (cnt f ws.length = cnt g vs.length) && allTo (fun i => sameB ws f (nth rs i) vs g (nth qs i)) rs.length && allTo (thingAt ws f vs g) ws.length

theorem hashF_some {vs : List Int} {g : Nat → Bool} {h : Int} {q : Nat} : ∀ (n k : Nat), hashF vs g h n k = some q → g q = true ∧ nth vs (q + 1) = h
  | 0, _, e => by cases e
  | n + 1, k, e => by
    unfold hashF at e
    split at e
    · rename_i hc; cases e; exact hc
    · exact hashF_some n (k + 1) e
theorem hashF_ex {vs : List Int} {g : Nat → Bool} {h : Int} {q : Nat} (h1 : g q = true) (h2 : nth vs (q + 1) = h) : ∀ (n k : Nat), k ≤ q → q < k + n → ∃ x, hashF vs g h n k = some x
  | 0, k, a, b => by omega
  | n + 1, k, a, b => by
    unfold hashF
    split
    · exact ⟨_, rfl⟩
    · rename_i hc
      have : k ≠ q := fun e => hc (by subst e; exact ⟨h1, h2⟩)
      exact hashF_ex h1 h2 n (k + 1) (by omega) (by omega)

theorem len_le {a : List Nat} : ∀ {b : List Nat}, a.Nodup → (∀ p ∈ a, p ∈ b) → a.length ≤ b.length := by
  induction a with
  | nil => intro _ _ _; simp
  | cons p a ih =>
    intro b hn hs
    obtain ⟨h1, h2⟩ := List.nodup_cons.1 hn
    have hp := hs p List.mem_cons_self
    have h3 := ih (b := b.erase p) h2 (fun q hq => (List.mem_erase_of_ne (fun e => h1 (by rw [← e]; exact hq))).2 (hs q (List.mem_cons_of_mem _ hq)))
    have h4 := List.length_erase_of_mem hp
    have h5 : 0 < b.length := List.length_pos_of_mem hp
    rw [List.length_cons]; omega
theorem cnt_filter (f : Nat → Bool) : ∀ n, cnt f n = ((List.range n).filter f).length
  | 0 => rfl
  | n + 1 => by
    rw [List.range_succ, List.filter_append, List.length_append, cnt, cnt_filter f n]
    congr 1
    cases h : f n <;> simp [List.filter, h]
theorem cnt_list {f : Nat → Bool} {n : Nat} {a : List Nat} (hn : a.Nodup) (h : ∀ p, p ∈ a ↔ f p = true) (hl : ∀ p ∈ a, p < n) : cnt f n = a.length := by
  rw [cnt_filter]
  refine Nat.le_antisymm (len_le (List.nodup_range.filter f) fun p hp => ?_) (len_le hn fun p hp => ?_)
  · exact (h p).2 (List.mem_filter.1 hp).2
  · exact List.mem_filter.2 ⟨List.mem_range.2 (hl p hp), (h p).1 hp⟩
theorem posO_len (ws : List Int) : ∀ (a : List Nat) (t : Nat), (posO ws a t).length = a.length
  | [], _ => rfl
  | p :: a, t => by rw [posO, List.length_cons, List.length_cons, posO_len ws a]

theorem hashes_one {ws : List Int} (hok : OkH ws) {p q : Nat} (hp : p ∈ places ws) (hq : q ∈ places ws) (e : nth ws (p + 1) = nth ws (q + 1)) : p = q := by
  obtain ⟨i, hi, rfl⟩ := List.getElem_of_mem hp
  obtain ⟨j, hj, rfl⟩ := List.getElem_of_mem hq
  have hpw := List.pairwise_iff_getElem.1 hok.hashes
  rcases Nat.lt_trichotomy i j with hl | hl | hl
  · exact absurd (by rw [List.getElem_map, List.getElem_map]; exact e) (hpw i j (by simpa using hi) (by simpa using hj) hl)
  · subst hl; rfl
  · exact absurd (by rw [List.getElem_map, List.getElem_map]; exact e.symm) (hpw j i (by simpa using hj) (by simpa using hi) hl)

theorem tell_ord {ws rs : List Int} {ord : List Nat} (ho : OrdOf ws rs ord) {f : Nat → Bool} (hf : Tells ws rs f) {p : Nat} : f p = true ↔ p ∈ ord := (hf p).trans (ho.iff p).symm
theorem tell_new {ws rs : List Int} {ord : List Nat} (hok : OkH ws) (hr : ∀ o ∈ rs, fitsB ws o = true) (ho : OrdOf ws rs ord) {g : Nat → Bool} (hg : Tells (arrW ws ord) (arrR ws rs ord) g) {p : Nat} (hp : p ∈ ord) : g (toO ws ord p) = true := (hg _).2 (arr_rch hok hr ho ((ho.iff p).1 hp))

section
variable {ws rs : List Int} {ord : List Nat} (hok : OkH ws) (hr : ∀ o ∈ rs, fitsB ws o = true) (ho : OrdOf ws rs ord)
  {f g : Nat → Bool} (hf : Tells ws rs f) (hg : Tells (arrW ws ord) (arrR ws rs ord) g)
include hok hr ho hf hg

theorem same_now {o : Int} (hk : kd o = 3 → pcl o ∈ ord) : sameB ws f o (arrW ws ord) g (nowO (toO ws ord) o) = true := by
  unfold sameB
  by_cases h : kd o = 3
  · have hp := hk h
    obtain ⟨k1, k2⟩ := now_kd hok hr ho h hp
    rw [if_pos ⟨h, k1⟩, k2, (tell_ord ho hf).2 hp, tell_new hok hr ho hg hp, (arr_head hok hr ho hp).2.1]
    simp
  · rw [if_neg (fun e => h e.1), nowO_no h]; simp
theorem slot_now {o : Int} (fm : Int) (hk : fm = 0 → kd o = 3 → pcl o ∈ ord) (hm : fm = 0 ∨ fm = 1 ∨ fm = 2) : slotB fm ws f o (arrW ws ord) g (if fm = 1 then o else nowO (toO ws ord) o) = true := by
  unfold slotB
  rcases hm with rfl | rfl | rfl
  · rw [if_neg (by decide), if_neg (by decide), if_neg (by decide)]
    exact same_now hok hr ho hf hg (hk rfl)
  · simp
  · rw [if_neg (by decide), if_pos rfl, if_neg (by decide)]
    by_cases h : kd o = 3
    · by_cases hp : pcl o ∈ ord
      · obtain ⟨k1, k2⟩ := now_kd hok hr ho h hp
        have e1 : weakO f o = o := by unfold weakO; rw [if_neg (by rw [(tell_ord ho hf).2 hp]; simp)]
        have e2 : weakO g (nowO (toO ws ord) o) = nowO (toO ws ord) o := by unfold weakO; rw [if_neg (by rw [k2, tell_new hok hr ho hg hp]; simp)]
        rw [e1, e2]
        exact same_now hok hr ho hf hg (fun _ => hp)
      · have hn : f (pcl o) = false := by
          cases e : f (pcl o)
          · rfl
          · exact absurd ((tell_ord ho hf).1 e) hp
        have e1 : weakO f o = 0 := by unfold weakO; rw [if_pos ⟨h, hn⟩]
        have e2 : nowO (toO ws ord) o = 0 := by rw [nowO_yes h, to_out hp]; rfl
        have e3 : weakO g 0 = 0 := by unfold weakO; split <;> rfl
        rw [e1, e2, e3]
        simp [sameB, kd]
    · have e1 : ∀ g', weakO g' o = o := fun g' => by unfold weakO; rw [if_neg (fun e => h e.1)]
      rw [nowO_no h, e1, e1]
      unfold sameB
      rw [if_neg (fun e => h e.1)]; simp
theorem arr_alike : alikeR ws rs f (arrW ws ord) (arrR ws rs ord) g = true := by
  have hN := arr_ok hok hr ho
  unfold alikeR
  simp only [Bool.and_eq_true, decide_eq_true_eq]
  refine ⟨⟨⟨?_, ?_⟩, ?_⟩, ?_⟩
  · unfold arrR; rw [List.length_map]
  · rw [cnt_list (n := ws.length) ho.nodup (fun p => (tell_ord ho hf).symm) (fun p hp => (places_mem (ord_pl hok hr ho hp)).2.1)]
    have hnd : (places (arrW ws ord)).Nodup := places_nodup _
    rw [cnt_list (n := (arrW ws ord).length) hnd (fun p => ((hg p).trans (arr_all hok hr ho)).symm) (fun p hp => (places_mem hp).2.1), (arr_places hok hr ho).1, posO_len]
  · rw [allTo_iff]
    intro k hk
    unfold arrR
    rw [nth_map hk]
    refine same_now hok hr ho hf hg fun h3 => (ho.iff _).2 (.root _ ?_ h3)
    rw [nth_eq hk]; exact List.getElem_mem _
  · rw [allTo_iff]
    intro p _
    unfold thingAt
    cases hfp : f p
    · rfl
    · have hp := (tell_ord ho hf).1 hfp
      have hpl := ord_pl hok hr ho hp
      obtain ⟨e0, e1, e2⟩ := arr_head hok hr ho hp
      have hq := to_in hok hr ho hp
      obtain ⟨q, hq'⟩ := hashF_ex (tell_new hok hr ho hg hp) e1 (arrW ws ord).length 0 (Nat.zero_le _) (by have := (places_mem hq).2.1; omega)
      have hs := hashF_some _ _ hq'
      have hqm : q ∈ places (arrW ws ord) := (arr_all hok hr ho).1 ((hg q).1 hs.1)
      obtain rfl : q = toO ws ord p := hashes_one hN hqm hq (by rw [hs.2, e1])
      have hh : hashed (arrW ws ord) g (nth ws (p + 1)) = some (toO ws ord p) := hq'
      rw [hh]
      simp only [Bool.not_true, Bool.false_or]
      unfold thingsB
      simp only [Bool.and_eq_true, decide_eq_true_eq]
      have hrp := (ho.iff p).1 hp
      refine ⟨⟨e2.symm, ?_⟩, ?_⟩
      · rw [e0]
        exact same_now hok hr ho hf hg fun h3 => (ho.iff _).2 (.step p _ hrp List.mem_cons_self h3)
      · rw [allTo_iff]
        intro k hk
        rw [arr_slot hok hr ho hp hk]
        refine slot_now hok hr ho hf hg _ (fun h0 h3 => (ho.iff _).2 (.step p _ hrp ?_ h3)) ?_
        · unfold holdsL
          rw [if_pos h0]
          exact List.mem_cons_of_mem _ ((slotsL_mem (ord_bad hok hr ho p hp)).2 ⟨k, hk, rfl⟩)
        · have := not_bad (ord_bad hok hr ho p hp)
          unfold formOf; omega
end

end Go.Proofs.Ytjpppdacamhhfaa
