/- The document's functions that ask of references and slots compute the plain functions. Conditions: the words are numbers of 64 bits, things fit. -/
import Derived.Test.YtjpppdacamhhfaaWord
import Derived.Test.YtjpppdacamhhfaaMem
import Derived.Test.YtjpppdacamhhfaaHSpec2
namespace Go.Proofs.Ytjpppdacamhhfaa
open Go.RowKit
set_option linter.unusedVariables false

section
variable (ws : List Int) (b o c : Nat) (w : World) (hr : Row w b o ws) (hw : I64 ws) (hl : ws.length ≤ 100000) (hs : bad1 ws = none)
include hr hw hl hs

theorem begins_any (q : Nat) (hq : q ≤ 100000) :
    Calls Try.prog 142 #[.slice (some ⟨b, o, none⟩) ws.length c, .int .i64 q] w fun e w' => e = .returned (.bool (isPl ws q)) ∧ w = w' := by
  have HR := Lib.hid hr; clear hr
  have HW := Lib.hid hw; clear hw
  have HS := Lib.hid hs; clear hs
  go_enter Try.func142, Try.ntmps142
  go_wp2
  go_loop [5] (fun i => ∃ p : Nat, p ≤ 200000 ∧ i = .int .i64 p ∧ badFrom ws p = none ∧ isPl ws q = has ws p q) (fun i => ws.length - (intOf i).toNat)
  case atStart => exact ⟨2, by omega, rfl, HS.out, rfl⟩
  case round =>
    obtain ⟨p, hp, rfl, hb, hh⟩ := hrel
    have HB := Lib.hid hb; clear hb
    have HH := Lib.hid hh; clear hh
    by_cases hlt : p < ws.length
    · obtain ⟨hbad, hnx⟩ := badFrom_none HB.out hlt
      have HBAD := Lib.hid hbad
      have HNX := Lib.hid hnx
      obtain ⟨n1, n2, n3, n4, n5⟩ := not_bad hbad
      have hcell := HR.out (p + 2) (by omega)
      have hcast := Lib.hid (nxt_cast hbad)
      clear hbad hnx
      by_cases hpq : p < q
      · go_wp2
        go_round
        case rel => exact ⟨nxt ws p, by have := hcast.out; omega, by rw [hcast.out], HNX.out, by rw [HH.out]; exact has_step hlt HBAD.out hpq⟩
        case measure => have := hcast.out; simp [intOf]; omega
      · by_cases he : p = q
        · subst he
          go_wp2
          go_ret
          exact ⟨ret_bool (by rw [HH.out, has_here hlt HBAD.out]), rfl⟩
        · have he' : ((p : Int) == (q : Int)) = false := beq_eq_false_iff_ne.2 (by omega)
          go_wp2
          go_ret
          exact ⟨ret_bool (by rw [HH.out, has_past (by omega)]), rfl⟩
    · by_cases he : p = q
      · subst he
        go_wp2
        go_ret
        exact ⟨ret_bool (by rw [HH.out, has_end (by omega)]), rfl⟩
      · have he' : ((p : Int) == (q : Int)) = false := beq_eq_false_iff_ne.2 (by omega)
        go_wp2
        go_ret
        exact ⟨ret_bool (by rw [HH.out, has_end (by omega)]), rfl⟩

theorem rthing_any (x : Int) (h1 : -9223372036854775808 ≤ x) (h2 : x ≤ 9223372036854775807) :
    Calls Try.prog 85 #[.slice (some ⟨b, o, none⟩) ws.length c, .int .i64 x] w fun e w' => e = .returned (.bool (isTh ws x)) ∧ w = w' := by
  have HR := Lib.hid hr; clear hr
  have HW := Lib.hid hw; clear hw
  have HS := Lib.hid hs; clear hs
  cases hk : (kd x == 3)
  · go_enter Try.func85, Try.ntmps85
    go_wp2_with (go_at_call 34; refine (rkind_any _ _ (by omega) (by omega)).mono ?_; rintro e w' ⟨rfl, rfl⟩)
    go_ret
    exact ⟨ret_bool (by unfold isTh; rw [hk]; rfl), rfl⟩
  · have h3 := (kd_three x).1 (by simpa using hk)
    obtain ⟨q1, q2, q3⟩ := h3
    have hb := begins_any ws b o c w HR.out HW.out hl HS.out (x / 2).toNat (by omega)
    rw [show (((x / 2).toNat : Nat) : Int) = x / 2 from by omega] at hb
    have HBG := Lib.hid hb; clear hb
    clear q1
    go_enter Try.func85, Try.ntmps85
    go_wp2_with (first | (go_at_call 34; refine (rkind_any _ _ (by omega) (by omega)).mono ?_; rintro e w' ⟨rfl, rfl⟩) | (go_at_call 142; refine HBG.out.mono ?_; rintro e w' ⟨rfl, rfl⟩))
    go_ret
    exact ⟨ret_bool (by unfold isTh; rw [hk]; rfl), rfl⟩

theorem rfits_any (x : Int) (h1 : -9223372036854775808 ≤ x) (h2 : x ≤ 9223372036854775807) :
    Calls Try.prog 102 #[.slice (some ⟨b, o, none⟩) ws.length c, .int .i64 x] w fun e w' => e = .returned (.bool (fitsB ws x)) ∧ w = w' := by
  have HTH := Lib.hid (rthing_any ws b o c w hr hw hl hs x h1 h2)
  clear hr hw hs
  cases ha : (kd x == 1)
  · cases hb : (kd x == 2)
    all_goals
      go_enter Try.func102, Try.ntmps102
      go_wp2_with (first | (go_at_call 34; refine (rkind_any _ _ (by omega) (by omega)).mono ?_; rintro e w' ⟨rfl, rfl⟩) | (go_at_call 85; refine HTH.out.mono ?_; rintro e w' ⟨rfl, rfl⟩))
      go_ret
      exact ⟨ret_bool (by unfold fitsB; rw [ha, hb]; simp), rfl⟩
  · go_enter Try.func102, Try.ntmps102
    go_wp2_with (go_at_call 34; refine (rkind_any _ _ (by omega) (by omega)).mono ?_; rintro e w' ⟨rfl, rfl⟩)
    go_ret
    exact ⟨ret_bool (by unfold fitsB; rw [ha]; simp), rfl⟩

theorem rstands_any (fm x : Int) (h1 : -9223372036854775808 ≤ x) (h2 : x ≤ 9223372036854775807) :
    Calls Try.prog 93 #[.slice (some ⟨b, o, none⟩) ws.length c, .int .i64 fm, .int .i64 x] w fun e w' => e = .returned (.bool (standsB ws fm x)) ∧ w = w' := by
  have HTH := Lib.hid (rfits_any ws b o c w hr hw hl hs x h1 h2)
  clear hr hw hs
  cases ha : (fm == 1)
  · have ha' : ¬ fm = 1 := by simpa using ha
    go_enter Try.func93, Try.ntmps93
    go_wp2_with (go_at_call 102; refine HTH.out.mono ?_; rintro e w' ⟨rfl, rfl⟩)
    go_ret
    exact ⟨ret_bool (by unfold standsB; rw [if_neg ha']), rfl⟩
  · have ha' : fm = 1 := by simpa using ha
    have HA := Lib.hid ha'; clear ha'
    go_enter Try.func93, Try.ntmps93
    go_wp2
    all_goals go_ret
    all_goals refine ⟨ret_bool ?_, rfl⟩
    all_goals unfold standsB
    all_goals rw [if_pos HA.out]
    all_goals simp
    all_goals omega
end
end Go.Proofs.Ytjpppdacamhhfaa
