/- The small methods of a heap's view, and what tells that a thing does not fit. Conditions: the words are numbers of 64 bits, places lie within the words. -/
import Derived.Test.YtjpppdacamhhfaaWord
import Derived.Test.YtjpppdacamhhfaaMem
namespace Go.Proofs.Ytjpppdacamhhfaa
open Go.RowKit
set_option linter.unusedVariables false

theorem wrong_any (ws : List Int) (b o c p : Nat) (w : World) (hr : Row w b o ws) (hw : I64 ws) (hl : ws.length ≤ 100000) (hp : p ≤ 100000) :
    Calls Try.prog 147 #[.slice (some ⟨b, o, none⟩) ws.length c, .int .i64 p] w fun e w' => e = .returned (.bool (badB ws p)) ∧ ∃ m, w' = w.drewN m := by
  have HR := Lib.hid hr; clear hr
  obtain ⟨r1, r2⟩ := hw (p + 2)
  by_cases hlt : p + 3 ≤ ws.length
  · have hc := HR.out (p + 2) (by omega)
    have e1 : IntKind.i64.wrap ((p : Int) + 2) = (p : Int) + 2 := IntWalk.i64_in _ (by omega)
    have e2 : ((p : Int) + 2).toNat = p + 2 := by omega
    have e3 : 0 ≤ (p : Int) + 2 := by omega
    have e4 : (p : Int) + 2 < ws.length := by omega
    go_enter Try.func147, Try.ntmps147
    go_wp2
    go_quiet (fail)
    clear e1 e2 e3 e4
    go_wp2
    all_goals go_ret
    all_goals refine ⟨ret_bool ?_, _, rfl⟩
    all_goals rw [Bool.eq_iff_iff]
    all_goals simp only [badB, Bool.or_eq_true, decide_eq_true_eq, true_iff]
    all_goals omega
  · go_enter Try.func147, Try.ntmps147
    go_wp2
    go_ret
    refine ⟨ret_bool ?_, 0, rfl⟩
    rw [Bool.eq_iff_iff]
    simp only [badB, Bool.or_eq_true, decide_eq_true_eq, true_iff]
    omega

theorem end_any (ws : List Int) (g b o c p : Nat) (w : World) (hv : w.cell? ⟨g, 0, none⟩ = some (.slice (some ⟨b, o, none⟩) ws.length c)) (hr : Row w b o ws) (hw : I64 ws) (hl : ws.length ≤ 100000) (hp : p + 2 < ws.length) :
    Calls Try.prog 116 #[.pointer (some ⟨g, 0, none⟩), .int .i64 p] w fun e w' => e = .returned (.int .i64 (p + 3 + nth ws (p + 2) / 4)) ∧ w = w' := by
  obtain ⟨r1, r2⟩ := hw (p + 2)
  have hc := hr (p + 2) hp
  clear hr
  go_enter Try.func116, Try.ntmps116
  go_wp2
  go_ret
  exact ⟨rfl, rfl⟩
theorem form_any (ws : List Int) (g b o c p : Nat) (w : World) (hv : w.cell? ⟨g, 0, none⟩ = some (.slice (some ⟨b, o, none⟩) ws.length c)) (hr : Row w b o ws) (hw : I64 ws) (hl : ws.length ≤ 100000) (hp : p + 2 < ws.length) :
    Calls Try.prog 97 #[.pointer (some ⟨g, 0, none⟩), .int .i64 p] w fun e w' => e = .returned (.int .i64 (formOf ws p)) ∧ w = w' := by
  obtain ⟨r1, r2⟩ := hw (p + 2)
  have hc := hr (p + 2) hp
  clear hr
  go_enter Try.func97, Try.ntmps97
  go_wp2
  go_ret
  exact ⟨rfl, rfl⟩

/-- Where a thing's slots lie. -/
def slotsA (b o c p : Nat) : Option Addr := if c = p + 3 then some ⟨b, o, none⟩ else some ⟨b, o + (p + 3), none⟩
theorem slotsA_eq (o c p b : Nat) (h : c = p + 3) : slotsA b o c p = some ⟨b, o, none⟩ := if_pos h
theorem slotsA_ne (b o c p : Nat) (h : ¬ c = p + 3) : slotsA b o c p = some ⟨b, o + (p + 3), none⟩ := if_neg h
theorem ints_slots {w : World} {ws : List Int} {b o c p : Nat} (hr : Row w b o ws) (hlt : b < w.heap.size) (hb : badB ws p = false) (hc : ws.length ≤ c) : Ints w (slotsA b o c p) (slotsL ws p) := fun h => by
  rw [slotsL_len hb] at h
  have hn := not_bad hb
  have h4 : slotsN ws p = (nth ws (p + 2) / 4).toNat := rfl
  rw [slotsA_ne b o c p (by omega)]
  refine ⟨b, o + (p + 3), rfl, hlt, fun j hj => ?_⟩
  rw [slotsL_len hb] at hj
  rw [slotsL_nth hb hj, show o + (p + 3) + j = o + (p + 3 + j) from by omega]
  exact hr (p + 3 + j) (by omega)

theorem slots_any (ws : List Int) (g b o c p : Nat) (w : World) (hv : w.cell? ⟨g, 0, none⟩ = some (.slice (some ⟨b, o, none⟩) ws.length c)) (hr : Row w b o ws) (hw : I64 ws) (hl : ws.length ≤ 100000) (hb : badB ws p = false) (hc : ws.length ≤ c) :
    Calls Try.prog 98 #[.pointer (some ⟨g, 0, none⟩), .int .i64 p] w fun e w' => e = .returned (.slice (slotsA b o c p) (slotsN ws p) (c - (p + 3))) ∧ ∃ m, w' = w.drewN m := by
  obtain ⟨n1, n2, n3, n4, n5⟩ := not_bad hb
  have e1 : IntKind.i64.wrap ((p : Int) + 3) = (p : Int) + 3 := IntWalk.i64_in _ (by omega)
  have e2 : ((p : Int) + 3).toNat = p + 3 := by omega
  have e3 : ((p : Int) + 3 + nth ws (p + 2) / 4).toNat - (p + 3) = slotsN ws p := by unfold slotsN; omega
  have HR := Lib.hid hr; clear hr
  have H3 := Lib.hid e3; clear e3
  go_enter Try.func98, Try.ntmps98
  go_wp2
  go_quiet ((go_at_call 116; exact quiet_left (end_any ws g b o c p _ hv HR.out hw hl (by omega))))
  go_wp2
  · go_ret
    refine ⟨?_, _, rfl⟩
    rw [H3.out, slotsA_eq _ _ _ _ rfl]
    rfl
  · go_ret
    refine ⟨?_, _, rfl⟩
    rw [H3.out, slotsA_ne _ _ _ _ (by assumption)]
    rfl

theorem slots_ex (ws : List Int) (g b o c p : Nat) (w : World) (hlt : b < w.heap.size) (hv : w.cell? ⟨g, 0, none⟩ = some (.slice (some ⟨b, o, none⟩) ws.length c)) (hr : Row w b o ws) (hw : I64 ws) (hl : ws.length ≤ 100000) (hb : badB ws p = false) (hc : ws.length ≤ c) :
    Calls Try.prog 98 #[.pointer (some ⟨g, 0, none⟩), .int .i64 p] w fun e w' => ∃ A c' m, e = .returned (.slice A (slotsN ws p) c') ∧ Ints w A (slotsL ws p) ∧ w' = w.drewN m :=
  (slots_any ws g b o c p w hv hr hw hl hb hc).mono fun e w' ⟨he, m, hw'⟩ => ⟨_, _, m, he, ints_slots hr hlt hb hc, hw'⟩

/-- What the map of begins answers. -/
def Begun (ws : List Int) (f : Int → Option Value) : Prop := ∀ p : Nat, (isPl ws p = true → ∃ i : Int, 0 < i ∧ f p = some (.int .i64 i)) ∧ (isPl ws p = false → f p = none)

/-- A heap's view: its words, the map of begins, its order. -/
structure ViewAt (w : World) (g : Nat) (ws : List Int) : Prop where
  at_ : ∃ b o c M n f A oc, g < w.heap.size ∧ b < w.heap.size ∧ w.heap[g]? = some (.cells #[.slice (some ⟨b, o, none⟩) ws.length c, .map (some M), .slice A (places ws).length oc] 112 (0, 0)) ∧ ws.length ≤ c ∧
    Row w b o ws ∧ MapI w M n f ∧ Begun ws f ∧ Ints w A (ups (places ws))

theorem ViewAt.below {w w' : World} {g : Nat} {ws : List Int} (h : ViewAt w g ws) (hb : Below w.heap.size w w') : ViewAt w' g ws := by
  obtain ⟨b, o, c, M, n, f, A, oc, hg, hlt, hblk, hc, hr, hm, hf, hi⟩ := h.at_
  exact ⟨b, o, c, M, n, f, A, oc, Nat.lt_of_lt_of_le hg hb.size, Nat.lt_of_lt_of_le hlt hb.size, (hb.block g hg).trans hblk, hc, hr.below hb hlt, hm.below hb hm.lt, hf, hi.below hb⟩
theorem ViewAt.drewN {w : World} {g : Nat} {ws : List Int} (h : ViewAt w g ws) (m : Nat) : ViewAt (w.drewN m) g ws := h.below (belowN _ _ m)

theorem zero3 (w : World) : (zeroValue 3).run Try.prog w = .ok (.int .i64 0) w := by kernel_rfl

theorem is_any (ws : List Int) (g M n : Nat) (f : Int → Option Value) (x : Int) (w : World) (hv : w.cell? ⟨g, 1, none⟩ = some (.map (some M))) (hm : MapI w M n f) (hf : Begun ws f)
    (h1 : -9223372036854775808 ≤ x) (h2 : x ≤ 9223372036854775807) :
    Calls Try.prog 95 #[.pointer (some ⟨g, 0, none⟩), .int .i64 x] w fun e w' => e = .returned (.bool (isTh ws x)) ∧ w = w' := by
  have HF := Lib.hid hf; clear hf
  by_cases hk : kd x = 3
  · have h3 := (kd_three x).1 hk
    obtain ⟨q1, q2, q3⟩ := h3
    have hrun := hm.look (t := 110) (e := 3) Try.underlying110 (zero3 w) false (x / 2) (by omega) (by omega)
    have hk' : (kd x == 3) = true := by rw [hk]; rfl
    have hp : ((x / 2).toNat : Int) = x / 2 := by omega
    clear hm hk q1
    cases hi : isPl ws (x / 2).toNat
    · have hn := (HF.out (x / 2).toNat).2 hi
      rw [hp] at hn
      rw [hn] at hrun
      simp only [Option.getD_none, Bool.false_eq_true, if_false] at hrun
      have HI := Lib.hid hi; clear hi hn hp
      go_enter Try.func95, Try.ntmps95
      go_wp2_with (go_at_call 31; refine (kind_any _ _ (by omega) (by omega)).mono ?_; rintro e w' ⟨rfl, rfl⟩)
      go_ret
      exact ⟨ret_bool (by unfold isTh; rw [HI.out, hk']; rfl), rfl⟩
    · obtain ⟨i, hi0, hn⟩ := (HF.out (x / 2).toNat).1 hi
      rw [hp] at hn
      rw [hn] at hrun
      simp only [Option.getD_some, Bool.false_eq_true, if_false] at hrun
      have HI := Lib.hid hi; clear hi hn hp
      go_enter Try.func95, Try.ntmps95
      go_wp2_with (go_at_call 31; refine (kind_any _ _ (by omega) (by omega)).mono ?_; rintro e w' ⟨rfl, rfl⟩)
      go_ret
      exact ⟨ret_bool (by unfold isTh; rw [HI.out, hk']; rfl), rfl⟩
  · have hk' : (kd x == 3) = false := by simpa using hk
    clear hm hk
    go_enter Try.func95, Try.ntmps95
    go_wp2_with (go_at_call 31; refine (kind_any _ _ (by omega) (by omega)).mono ?_; rintro e w' ⟨rfl, rfl⟩)
    go_ret
    exact ⟨ret_bool (by unfold isTh; rw [hk']; rfl), rfl⟩

theorem fits_any (ws : List Int) (g M n : Nat) (f : Int → Option Value) (x : Int) (w : World) (hv : w.cell? ⟨g, 1, none⟩ = some (.map (some M))) (hm : MapI w M n f) (hf : Begun ws f)
    (h1 : -9223372036854775808 ≤ x) (h2 : x ≤ 9223372036854775807) :
    Calls Try.prog 149 #[.pointer (some ⟨g, 0, none⟩), .int .i64 x] w fun e w' => e = .returned (.bool (fitsB ws x)) ∧ w = w' := by
  have HF := Lib.hid hf; clear hf
  have HM := Lib.hid hm; clear hm
  have HV := Lib.hid hv; clear hv
  cases ha : (kd x == 1)
  · cases hb : (kd x == 2)
    all_goals
      go_enter Try.func149, Try.ntmps149
      go_wp2_with (first | (go_at_call 31; refine (kind_any _ _ (by omega) (by omega)).mono ?_; rintro e w' ⟨rfl, rfl⟩) | (go_at_call 95; refine (is_any ws _ M n f _ _ HV.out HM.out HF.out (by omega) (by omega)).mono ?_; rintro e w' ⟨rfl, rfl⟩))
      go_ret
      exact ⟨ret_bool (by unfold fitsB; rw [ha, hb]; simp), rfl⟩
  · go_enter Try.func149, Try.ntmps149
    go_wp2_with (go_at_call 31; refine (kind_any _ _ (by omega) (by omega)).mono ?_; rintro e w' ⟨rfl, rfl⟩)
    go_ret
    exact ⟨ret_bool (by unfold fitsB; rw [ha]; simp), rfl⟩

theorem stands_any (ws : List Int) (g M n : Nat) (f : Int → Option Value) (fm x : Int) (w : World) (hv : w.cell? ⟨g, 1, none⟩ = some (.map (some M))) (hm : MapI w M n f) (hf : Begun ws f)
    (h1 : -9223372036854775808 ≤ x) (h2 : x ≤ 9223372036854775807) :
    Calls Try.prog 99 #[.pointer (some ⟨g, 0, none⟩), .int .i64 fm, .int .i64 x] w fun e w' => e = .returned (.bool (standsB ws fm x)) ∧ w = w' := by
  have HF := Lib.hid hf; clear hf
  have HM := Lib.hid hm; clear hm
  have HV := Lib.hid hv; clear hv
  cases ha : (fm == 1)
  · have ha' : ¬ fm = 1 := by simpa using ha
    go_enter Try.func99, Try.ntmps99
    go_wp2_with (go_at_call 149; refine (fits_any ws _ M n f _ _ HV.out HM.out HF.out (by omega) (by omega)).mono ?_; rintro e w' ⟨rfl, rfl⟩)
    go_ret
    exact ⟨ret_bool (by unfold standsB; rw [if_neg ha']), rfl⟩
  · have ha' : fm = 1 := by simpa using ha
    have HA := Lib.hid ha'; clear ha'
    go_enter Try.func99, Try.ntmps99
    go_wp2
    all_goals go_ret
    all_goals refine ⟨ret_bool ?_, rfl⟩
    all_goals unfold standsB
    all_goals rw [if_pos HA.out]
    all_goals simp
    all_goals omega

end Go.Proofs.Ytjpppdacamhhfaa
