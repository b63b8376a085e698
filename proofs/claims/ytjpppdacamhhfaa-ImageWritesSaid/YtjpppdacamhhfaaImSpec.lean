/- Images as bytes: the plain law. Conditions: none. -/
import Derived.Test.YtjpppdacamhhfaaTSpec
import Derived.Test.YtjpppdacamhhfaaHoldSpec
namespace Go.Proofs.Ytjpppdacamhhfaa
set_option linter.unusedVariables false

/-- A number as one that is not below zero, and back. -/
def zz (n : Int) : Nat := if 0 ≤ n then (2 * n).toNat else (-2 * n - 1).toNat
def unz (u : Nat) : Int := if u % 2 = 1 then -((u / 2 : Nat) : Int) - 1 else ((u / 2 : Nat) : Int)
theorem unz_zz (n : Int) : unz (zz n) = n := by
  unfold unz zz
  split <;> split <;> omega
theorem zz_unz (u : Nat) : zz (unz u) = u := by
  unfold unz zz
  split <;> split <;> omega
/-- Its bytes. -/
def vb (u : Nat) : List Int := if h : u < 128 then [(u : Int)] else ((u % 128 + 128 : Nat) : Int) :: vb (u / 128)
termination_by u
theorem vb_low {u : Nat} (h : u < 128) : vb u = [(u : Int)] := by rw [vb, dif_pos h]
theorem vb_high {u : Nat} (h : 128 ≤ u) : vb u = ((u % 128 + 128 : Nat) : Int) :: vb (u / 128) := by rw [vb, dif_neg (by omega)]
def numB (n : Int) : List Int := vb (zz n)
def listB (l : List Int) : List Int := numB l.length ++ l.flatMap numB
def imgB (ws rs : List Int) : List Int := [71, 69] ++ listB ws ++ listB rs

/-- What reading comes to: a value and where it goes on, or what is wrong. -/
inductive Got (α : Type) where
  | ok (x : α) (at_ : Nat)
  | no (code : Int) (at_ : Nat)
def rdF (b : List Int) (at_ : Nat) : Nat → Nat → Nat → Got Int
  | 0, _, _ => if b.length ≤ at_ + 9 then .no 8 b.length else .no 2 at_
  | n + 1, k, u => if b.length ≤ at_ + k then .no 8 b.length else
    if nth b (at_ + k) = 0 ∧ 0 < k then .no 2 at_ else
    if nth b (at_ + k) < 128 then .ok (unz (u + (nth b (at_ + k) % 128).toNat * 2 ^ (7 * k))) (at_ + k + 1) else rdF b at_ n (k + 1) (u + (nth b (at_ + k) % 128).toNat * 2 ^ (7 * k))
def rdN (b : List Int) (at_ : Nat) : Got Int := rdF b at_ 9 0 0
def rdL (b : List Int) : Nat → Nat → Got (List Int)
  | 0, at_ => .ok [] at_
  | n + 1, at_ => match rdN b at_ with
    | .no c a => .no c a
    | .ok x a => match rdL b n a with
      | .no c a => .no c a
      | .ok l a => .ok (x :: l) a
def rdList (b : List Int) (at_ least most : Nat) : Got (List Int) := match rdN b at_ with
  | .no c a => .no c a
  | .ok n a => if n < least ∨ (most : Int) < n then .no 1 at_ else rdL b n.toNat a

/-- The bytes from a place on are those. -/
def Seg (b : List Int) (at_ : Nat) (l : List Int) : Prop := (∀ j, j < l.length → nth b (at_ + j) = nth l j) ∧ at_ + l.length ≤ b.length
theorem nth_app_l {l m : List Int} {j : Nat} (h : j < l.length) : nth (l ++ m) j = nth l j := by unfold nth; rw [List.getD_eq_getElem?_getD, List.getD_eq_getElem?_getD, List.getElem?_append_left h]
theorem nth_app_r {l m : List Int} {j : Nat} (h : l.length ≤ j) : nth (l ++ m) j = nth m (j - l.length) := by unfold nth; rw [List.getD_eq_getElem?_getD, List.getD_eq_getElem?_getD, List.getElem?_append_right h]
theorem Seg.nil {b : List Int} {at_ : Nat} (h : at_ ≤ b.length) : Seg b at_ [] := ⟨fun j hj => absurd hj (Nat.not_lt_zero _), h⟩
theorem Seg.app {b l m : List Int} {at_ : Nat} (h1 : Seg b at_ l) (h2 : Seg b (at_ + l.length) m) : Seg b at_ (l ++ m) := by
  refine ⟨fun j hj => ?_, by rw [List.length_append]; have := h2.2; omega⟩
  rw [List.length_append] at hj
  by_cases hl : j < l.length
  · rw [nth_app_l hl]; exact h1.1 j hl
  · rw [nth_app_r (by omega), ← h2.1 (j - l.length) (by omega)]
    congr 1; omega
theorem Seg.left {b l m : List Int} {at_ : Nat} (h : Seg b at_ (l ++ m)) : Seg b at_ l := by
  refine ⟨fun j hj => ?_, by have := h.2; rw [List.length_append] at this; omega⟩
  rw [h.1 j (by rw [List.length_append]; omega), nth_app_l hj]
theorem Seg.right {b l m : List Int} {at_ : Nat} (h : Seg b at_ (l ++ m)) : Seg b (at_ + l.length) m := by
  have h2 := h.2
  rw [List.length_append] at h2
  refine ⟨fun j hj => ?_, by omega⟩
  have := h.1 (l.length + j) (by rw [List.length_append]; omega)
  rw [nth_app_r (by omega)] at this
  rw [← Nat.add_assoc] at this
  rw [this]; congr 1; omega
theorem Seg.whole (b : List Int) : Seg b 0 b := ⟨fun j _ => by rw [Nat.zero_add], by omega⟩
theorem list_ext_nth' {l m : List Int} (hl : l.length = m.length) (h : ∀ j, j < l.length → nth l j = nth m j) : l = m := by
  apply List.ext_getElem hl
  intro j h1 h2
  have := h j h1
  unfold nth at this
  rw [List.getD_eq_getElem?_getD, List.getD_eq_getElem?_getD, List.getElem?_eq_getElem h1, List.getElem?_eq_getElem h2] at this
  simpa using this
theorem Seg.all {b l : List Int} (h : Seg b 0 l) (hl : b.length ≤ l.length) : b = l := by
  have h2 := h.2
  refine list_ext_nth' (by omega) (fun j hj => ?_)
  have := h.1 j (by omega)
  rwa [Nat.zero_add] at this
theorem vb_pos (u : Nat) : 0 < (vb u).length := by
  rw [vb]; split <;> simp
theorem nth_vb_zero_low {u : Nat} (h : u < 128) : nth (vb u) 0 = u := by rw [vb_low h]; rfl
theorem nth_cons0 (a : Int) (l : List Int) : nth (a :: l) 0 = a := rfl
theorem nth_consS (a : Int) (l : List Int) (j : Nat) : nth (a :: l) (j + 1) = nth l j := by simp [nth]

theorem pow_step (x k : Nat) : x % 128 * 2 ^ (7 * k) + x / 128 * 2 ^ (7 * (k + 1)) = x * 2 ^ (7 * k) := by
  have e : 2 ^ (7 * (k + 1)) = 128 * 2 ^ (7 * k) := by rw [show 7 * (k + 1) = 7 + 7 * k from by omega, Nat.pow_add]
  rw [e, ← Nat.mul_assoc, ← Nat.add_mul]
  congr 1
  omega

theorem rd_vb (b : List Int) (at_ : Nat) : ∀ (n k u x : Nat), n + k = 9 → x < 128 ^ n → (k = 0 ∨ 0 < x) → Seg b (at_ + k) (vb x) → rdF b at_ n k u = .ok (unz (u + x * 2 ^ (7 * k))) (at_ + k + (vb x).length)
  | 0, k, u, x, h9, hx, hk, hs => by
    simp at hx
    omega
  | n + 1, k, u, x, h9, hx, hk, hs => by
    have h2 := hs.2
    have hp := vb_pos x
    have h0 := hs.1 0 hp
    rw [Nat.add_zero] at h0
    by_cases hl : x < 128
    · rw [nth_vb_zero_low hl] at h0
      rw [vb_low hl] at h2 ⊢
      simp only [List.length_singleton] at h2 ⊢
      unfold rdF
      rw [if_neg (by omega), h0, if_neg (by omega), if_pos (by omega)]
      have : ((x : Int) % 128).toNat = x := by omega
      rw [this]
    · rw [vb_high (by omega)] at h0 h2 hs ⊢
      rw [nth_cons0] at h0
      unfold rdF
      rw [if_neg (by simp at h2; omega), h0, if_neg (by omega), if_neg (by omega)]
      have e : ((((x % 128 + 128 : Nat) : Int)) % 128).toNat = x % 128 := by omega
      rw [e, rd_vb b at_ n (k + 1) (u + x % 128 * 2 ^ (7 * k)) (x / 128) (by omega) (by rw [Nat.pow_succ] at hx; omega) (.inr (by omega)) ?_]
      · rw [Nat.add_assoc, pow_step, List.length_cons]; congr 1; omega
      · have := hs.right (l := [((x % 128 + 128 : Nat) : Int)]) (m := vb (x / 128))
        simpa [Nat.add_assoc] using this
theorem rdN_vb {b : List Int} {at_ : Nat} {n : Int} (hb : zz n < 128 ^ 9) (hs : Seg b at_ (numB n)) : rdN b at_ = .ok n (at_ + (numB n).length) := by
  unfold rdN
  rw [rd_vb b at_ 9 0 0 (zz n) rfl hb (.inl rfl) hs]
  simp [unz_zz, numB]

/-- What was read is what is written. -/
theorem rd_ok (b : List Int) (at_ : Nat) (hb : ∀ j, 0 ≤ nth b j ∧ nth b j ≤ 255) : ∀ (n k u : Nat) (v : Int) (a : Nat), rdF b at_ n k u = .ok v a → ∃ x, v = unz (u + x * 2 ^ (7 * k)) ∧ Seg b (at_ + k) (vb x) ∧ a = at_ + k + (vb x).length ∧ (0 < k → 0 < x) ∧ x < 128 ^ n
  | 0, k, u, v, a, h => by
    unfold rdF at h
    split at h <;> cases h
  | n + 1, k, u, v, a, h => by
    obtain ⟨h1, h2⟩ := hb (at_ + k)
    unfold rdF at h
    split at h
    · cases h
    · rename_i c1
      split at h
      · cases h
      · rename_i c2
        split at h
        · rename_i c3
          injection h with e1 e2
          have e : ((nth b (at_ + k)).toNat : Int) = nth b (at_ + k) := by omega
          have e' : (nth b (at_ + k) % 128).toNat = (nth b (at_ + k)).toNat := by omega
          rw [e'] at e1
          have hv : vb (nth b (at_ + k)).toNat = [nth b (at_ + k)] := by rw [vb_low (by omega), e]
          refine ⟨(nth b (at_ + k)).toNat, e1.symm, ?_, ?_, ?_, ?_⟩
          · rw [hv]
            refine ⟨fun j hj => ?_, by simp; omega⟩
            simp at hj
            subst hj
            rfl
          · rw [hv]; exact e2.symm
          · intro hk
            have : nth b (at_ + k) ≠ 0 := fun e => c2 ⟨e, hk⟩
            omega
          · rw [Nat.pow_succ]
            have : 0 < 128 ^ n := Nat.pow_pos (by omega)
            omega
        · rename_i c3
          obtain ⟨x, q1, q2, q3, q4, q5⟩ := rd_ok b at_ hb n (k + 1) _ v a h
          have q4 := q4 (by omega)
          generalize hc : nth b (at_ + k) = c at *
          have hxx : ((c % 128).toNat + 128 * x) % 128 = (c % 128).toNat := by omega
          have hxd : ((c % 128).toNat + 128 * x) / 128 = x := by omega
          have hv : vb ((c % 128).toNat + 128 * x) = c :: vb x := by
            rw [vb_high (by omega), hxx, hxd]
            congr 1
            omega
          refine ⟨(c % 128).toNat + 128 * x, ?_, ?_, ?_, fun _ => by omega, ?_⟩
          · rw [q1, ← pow_step ((c % 128).toNat + 128 * x) k, hxx, hxd]; congr 1; omega
          · rw [hv]
            have hs1 : Seg b (at_ + k) [c] := ⟨fun j hj => by simp at hj; subst hj; exact hc, by simp; omega⟩
            exact hs1.app (m := vb x) (by simpa [Nat.add_assoc] using q2)
          · rw [hv, q3, List.length_cons]; omega
          · rw [Nat.pow_succ]
            omega
theorem rdN_ok {b : List Int} {at_ : Nat} (hb : ∀ j, 0 ≤ nth b j ∧ nth b j ≤ 255) {v : Int} {a : Nat} (h : rdN b at_ = .ok v a) : Seg b at_ (numB v) ∧ a = at_ + (numB v).length ∧ zz v < 128 ^ 9 := by
  obtain ⟨x, q1, q2, q3, -, q5⟩ := rd_ok b at_ hb 9 0 0 v a h
  have e : zz v = x := by rw [q1, Nat.mul_zero, Nat.pow_zero, Nat.mul_one, Nat.zero_add, zz_unz]
  have e2 : numB v = vb x := by rw [numB, e]
  rw [e2, e]
  exact ⟨q2, q3, q5⟩
theorem rdL_vb {b : List Int} : ∀ {l : List Int} {at_ : Nat}, (∀ n ∈ l, zz n < 128 ^ 9) → Seg b at_ (l.flatMap numB) → rdL b l.length at_ = .ok l (at_ + (l.flatMap numB).length)
  | [], at_, _, _ => by simp [rdL]
  | n :: l, at_, hz, hs => by
    rw [List.flatMap_cons] at hs
    rw [List.length_cons, rdL, rdN_vb (hz n List.mem_cons_self) hs.left]
    simp only
    rw [rdL_vb (fun x hx => hz x (List.mem_cons_of_mem _ hx)) hs.right]
    simp only [List.flatMap_cons, List.length_append]
    rw [Nat.add_assoc]
theorem rdL_ok {b : List Int} (hb : ∀ j, 0 ≤ nth b j ∧ nth b j ≤ 255) : ∀ {n at_ : Nat} {l : List Int} {a : Nat}, at_ ≤ b.length → rdL b n at_ = .ok l a → l.length = n ∧ Seg b at_ (l.flatMap numB) ∧ a = at_ + (l.flatMap numB).length
  | 0, at_, l, a, hat, h => by
    rw [rdL] at h
    cases h
    exact ⟨rfl, Seg.nil hat, rfl⟩
  | n + 1, at_, l, a, hat, h => by
    rw [rdL] at h
    split at h
    · cases h
    · rename_i x a1 h1
      obtain ⟨s1, s2, s3⟩ := rdN_ok hb h1
      split at h
      · cases h
      · rename_i l2 a2 h2
        cases h
        obtain ⟨t1, t2, t3⟩ := rdL_ok hb (by have := s1.2; omega) h2
        subst s2
        refine ⟨by rw [List.length_cons, t1], ?_, ?_⟩
        · rw [List.flatMap_cons]; exact s1.app t2
        · rw [t3, List.flatMap_cons, List.length_append, Nat.add_assoc]
theorem rdList_vb {b l : List Int} {at_ least most : Nat} (h1 : least ≤ l.length) (h2 : l.length ≤ most) (h3 : l.length ≤ 100000) (hz : ∀ n ∈ l, zz n < 128 ^ 9) (hs : Seg b at_ (listB l)) : rdList b at_ least most = .ok l (at_ + (listB l).length) := by
  unfold listB at hs ⊢
  have e9 : (128 : Nat) ^ 9 = 9223372036854775808 := by decide
  unfold rdList
  rw [rdN_vb (by rw [e9]; unfold zz; rw [if_pos (by omega)]; omega) hs.left]
  simp only
  rw [if_neg (by omega)]
  have := rdL_vb hz hs.right
  rw [Int.toNat_natCast, this, List.length_append, Nat.add_assoc]
theorem rdList_ok {b l : List Int} {at_ least most a : Nat} (hb : ∀ j, 0 ≤ nth b j ∧ nth b j ≤ 255) (h : rdList b at_ least most = .ok l a) : least ≤ l.length ∧ l.length ≤ most ∧ Seg b at_ (listB l) ∧ a = at_ + (listB l).length := by
  unfold rdList at h
  split at h
  · cases h
  · rename_i n a1 h1
    obtain ⟨s1, s2, s3⟩ := rdN_ok hb h1
    split at h
    · cases h
    · rename_i hc
      obtain ⟨t1, t2, t3⟩ := rdL_ok hb (by have := s1.2; omega) h
      have e : ((l.length : Nat) : Int) = n := by omega
      subst s2
      unfold listB
      rw [e]
      refine ⟨by omega, by omega, s1.app t2, by rw [t3, List.length_append, Nat.add_assoc]⟩

theorem rdF_no {b : List Int} {at_ c a : _} : ∀ (n k u : Nat), rdF b at_ n k u = .no c a → c ≠ 0
  | 0, k, u, h => by
    unfold rdF at h
    split at h <;> (injection h with e1 e2; omega)
  | n + 1, k, u, h => by
    unfold rdF at h
    split at h
    · injection h with e1 e2; omega
    · split at h
      · injection h with e1 e2; omega
      · split at h
        · cases h
        · exact rdF_no n _ _ h
theorem rdL_no {b : List Int} {c : Int} {a : Nat} : ∀ (n at_ : Nat), rdL b n at_ = .no c a → c ≠ 0
  | 0, at_, h => by rw [rdL] at h; cases h
  | n + 1, at_, h => by
    rw [rdL] at h
    split at h
    · rename_i c' a' h'
      cases h
      exact rdF_no _ _ _ h'
    · split at h
      · rename_i c' a' h'
        cases h
        exact rdL_no _ _ h'
      · cases h
theorem rdList_no {b : List Int} {at_ least most : Nat} {c : Int} {a : Nat} (h : rdList b at_ least most = .no c a) : ¬ c = 0 := by
  unfold rdList at h
  split at h
  · rename_i c' a' h'
    cases h
    exact rdF_no _ _ _ h'
  · split at h
    · injection h with e1 e2; omega
    · exact rdL_no _ _ h

/-- Reading an image: what is wrong, the words, the roots. -/
def imgF (b : List Int) : (Int × Nat) × (List Int × List Int) :=
  if (0 < b.length ∧ nth b 0 ≠ 71) ∨ (1 < b.length ∧ nth b 1 ≠ 69) then ((2, 0), [], []) else
  if b.length < 2 then ((8, b.length), [], []) else
  match rdList b 2 2 2000 with
  | .no c a => ((c, a), [], [])
  | .ok ws a => match rdList b a 0 600 with
    | .no c a => ((c, a), [], [])
    | .ok rs a' => if a' < b.length then ((9, a'), [], []) else if (rootsF ws rs).1 = 0 then ((0, 0), ws, rs) else (rootsF ws rs, [], [])

theorem words_bd {ws : List Int} (hok : OkH ws) : ∀ x ∈ ws, -2147483647 ≤ x ∧ x ≤ 2147483647 := by
  intro x hx
  rw [← arr_id hok] at hx
  unfold arrW laidO at hx
  rcases List.mem_append.1 hx with hx | hx
  · simp only [List.mem_cons, List.not_mem_nil, or_false] at hx
    rcases hx with rfl | rfl
    · rw [hok.w0]; omega
    · have := hok.w1; have := hok.w1m; omega
  · obtain ⟨p, hpl, hx⟩ := List.mem_flatMap.1 hx
    obtain ⟨p2, pl, hb⟩ := places_mem hpl
    have hth := hok.things p hpl
    unfold thingO at hx
    simp only [List.mem_cons] at hx
    rcases hx with rfl | rfl | rfl | hx
    · rw [now_id hok (class_fits hok hpl)]; exact fits_bd (class_fits hok hpl)
    · have := hth.hash1; have := hth.hash2; have := hok.w1m; omega
    · obtain ⟨m1, m2, m3, m4, m5⟩ := not_bad hb
      omega
    · split at hx
      · rename_i hf
        obtain ⟨k, hk, rfl⟩ := (slotsL_mem hb).1 hx
        have := hth.slots k hk
        unfold standsB at this
        rw [if_pos hf] at this
        simp at this
        omega
      · rename_i hf
        obtain ⟨y, hy, rfl⟩ := List.mem_map.1 hx
        obtain ⟨k, hk, rfl⟩ := (slotsL_mem hb).1 hy
        rw [now_id hok (slot_fits hok hpl hf hk)]
        exact fits_bd (slot_fits hok hpl hf hk)
theorem zz_bd {x : Int} (h : -2147483647 ≤ x ∧ x ≤ 2147483647) : zz x < 128 ^ 9 := by
  have e9 : (128 : Nat) ^ 9 = 9223372036854775808 := by decide
  rw [e9]; unfold zz; split <;> omega
theorem img_fore {ws rs : List Int} (h : (rootsF ws rs).1 = 0) (hr : rs.length ≤ 600) : imgF (imgB ws rs) = ((0, 0), ws, rs) := by
  obtain ⟨hok, -, -, hfit, hz⟩ := rootsF_zero h
  have hs : Seg (imgB ws rs) 0 ([71, 69] ++ listB ws ++ listB rs) := Seg.whole _
  have h1 := hs.left.left
  have h2 := hs.left.right
  have h3 := hs.right
  have hl : (imgB ws rs).length = 2 + (listB ws).length + (listB rs).length := by unfold imgB; simp; omega
  have e0 := h1.1 0 (by simp)
  have e1 := h1.1 1 (by simp)
  simp only [Nat.zero_add] at e0 e1 h2 h3
  have r1 := rdList_vb (least := 2) (most := 2000) hok.two hok.most (by have := hok.most; omega) (fun n hn => zz_bd (words_bd hok n hn)) h2
  have r2 := rdList_vb (b := imgB ws rs) (at_ := ([71, 69] ++ listB ws).length) (least := 0) (most := 600) (Nat.zero_le _) hr (by omega) (fun n hn => zz_bd (fits_bd (hfit n hn))) h3
  have el : ([71, 69] ++ listB ws).length = 2 + (listB ws).length := by simp; omega
  rw [el] at r2
  unfold imgF
  rw [if_neg (by rw [e0, e1]; simp [nth]), if_neg (by omega)]
  have el2 : ([71, 69] : List Int).length = 2 := rfl
  rw [el2] at r1
  rw [r1]
  simp only
  rw [r2]
  simp only
  rw [if_neg (by omega), if_pos h]
theorem img_back {b : List Int} (hb : ∀ j, 0 ≤ nth b j ∧ nth b j ≤ 255) (h : (imgF b).1.1 = 0) : b = imgB (imgF b).2.1 (imgF b).2.2 ∧ (rootsF (imgF b).2.1 (imgF b).2.2).1 = 0 ∧ (imgF b).2.2.length ≤ 600 := by
  unfold imgF at h ⊢
  split at h
  · cases h
  · rename_i c1
    rw [if_neg c1]
    split at h
    · cases h
    · rename_i c2
      rw [if_neg c2]
      split at h
      · rename_i c a hr
        exact absurd h (by
          have := rdList_no hr
          exact this)
      · rename_i ws a h1
        obtain ⟨l1, l2, s1, e1⟩ := rdList_ok hb h1
        split at h
        · rename_i c a hr
          exact absurd h (rdList_no hr)
        · rename_i rs a' h2
          obtain ⟨k1, k2, s2, e2⟩ := rdList_ok hb h2
          split at h
          · cases h
          · rename_i c3
            rw [if_neg c3]
            split at h
            · rename_i c4
              rw [if_pos c4]
              refine ⟨?_, c4, k2⟩
              have s0 : Seg b 0 [71, 69] := ⟨fun j hj => by
                have g0 : nth b 0 = 71 := Classical.byContradiction fun e => c1 (.inl ⟨by omega, e⟩)
                have g1 : nth b 1 = 69 := Classical.byContradiction fun e => c1 (.inr ⟨by omega, e⟩)
                simp at hj
                match j, hj with
                | 0, _ => exact g0
                | 1, _ => exact g1, by simp; omega⟩
              have s3 := (s0.app (m := listB ws) s1).app (m := listB rs) (by rw [e1] at s2; rw [show 0 + ([71, 69] ++ listB ws : List Int).length = 2 + (listB ws).length from by rw [List.length_append]; show 0 + (2 + _) = _; omega]; exact s2)
              refine Seg.all s3 ?_
              have el : (imgB ws rs).length = 2 + (listB ws).length + (listB rs).length := by unfold imgB; rw [List.length_append, List.length_append]; rfl
              show b.length ≤ (imgB ws rs).length
              omega
            · rename_i c4
              exact absurd h c4
end Go.Proofs.Ytjpppdacamhhfaa
