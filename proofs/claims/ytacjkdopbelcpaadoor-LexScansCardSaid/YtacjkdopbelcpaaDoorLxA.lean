/- Letters, digits, and spans of them, as the program and the document ask for them. Conditions: none. -/
import Derived.Test.YtacjkdopbelcpaaDoorMem
import Derived.Test.YtacjkdopbelcpaaDoorLxSpec2
namespace Go.Proofs.YtacjkdopbelcpaaDoor
open Go.RowKit
set_option linter.unusedVariables false

theorem lt_cases (n : Nat) : (97 ≤ n ∧ n ≤ 122) ∨ 122 < n ∨ (65 ≤ n ∧ n ≤ 90) ∨ n = 95 ∨ n < 65 ∨ (90 < n ∧ n < 97 ∧ n ≠ 95) := by omega
theorem dg_cases (n : Nat) : (48 ≤ n ∧ n ≤ 57) ∨ 57 < n ∨ n < 48 := by omega
theorem ret_b {a b : Bool} (h : a = b) : Ending.returned (.bool a) = .returned (.bool b) := by rw [h]

theorem letter_any (b : UInt8) (w : World) : Calls Tryd.prog 13 #[.int .u8 (b.toNat : Int)] w fun e w' => e = .returned (.bool (isLt b)) ∧ w = w' := by
  unfold isLt
  generalize b.toNat = n
  rcases lt_cases n with h | h | h | h | h | h
  all_goals
    go_enter Tryd.func13, Tryd.ntmps13
    go_wp2
    go_ret
    exact ⟨ret_b (Bool.eq_iff_iff.2 (by simp <;> omega)), rfl⟩
theorem digit_any (b : UInt8) (w : World) : Calls Tryd.prog 15 #[.int .u8 (b.toNat : Int)] w fun e w' => e = .returned (.bool (isDg b)) ∧ w = w' := by
  unfold isDg
  generalize b.toNat = n
  rcases dg_cases n with h | h | h
  all_goals
    go_enter Tryd.func15, Tryd.ntmps15
    go_wp2
    go_ret
    exact ⟨ret_b (Bool.eq_iff_iff.2 (by simp <;> omega)), rfl⟩
@[go_sem] theorem idx_go (s : ByteArray) (j : Nat) (h : j < s.size) : s[j]'h = bt s j := idx_bt s j h
theorem nl_any (b : UInt8) (w : World) : Calls Tryd.prog 12 #[.int .u8 (b.toNat : Int)] w fun e w' => e = .returned (.bool (isNl b)) ∧ w = w' := by
  unfold isNl
  generalize b.toNat = n
  by_cases h : n = 10
  all_goals
    go_enter Tryd.func12, Tryd.ntmps12
    go_wp2
    go_ret
    exact ⟨ret_b (Bool.eq_iff_iff.2 (by simp <;> omega)), rfl⟩
theorem ld_any (b : UInt8) (w : World) : Calls Tryd.prog 14 #[.int .u8 (b.toNat : Int)] w fun e w' => e = .returned (.bool (isLd b)) ∧ w = w' := by
  unfold isLd
  have HA := Lib.hid (letter_any b w)
  have HB := Lib.hid (digit_any b w)
  generalize isLt b = x at *
  generalize isDg b = y at *
  cases x <;> cases y
  all_goals
    go_enter Tryd.func14, Tryd.ntmps14
    go_wp2_with (first
      | (go_at_call 13; refine HA.out.mono ?_; rintro e w' ⟨rfl, rfl⟩)
      | (go_at_call 15; refine HB.out.mono ?_; rintro e w' ⟨rfl, rfl⟩))
    go_ret
    exact ⟨rfl, rfl⟩

set_option maxRecDepth 100000 in
theorem span_nl (s : ByteArray) (hs : s.size ≤ 9223372036854775807) (w : World) :
    Calls Tryd.prog 11 #[.string s, .func (.func 12) #[] #[]] w fun e w' => e = .returned (.int .i64 (spanF isNl s.data.toList : Nat)) ∧ w = w' := by
  go_enter Tryd.func11, Tryd.ntmps11
  go_wp2_with fail
  go_loop [5] (fun i => ∃ p : Nat, i = .int .i64 (p : Int) ∧ p ≤ s.size ∧ ∀ j, j < p → isNl (bt s j) = true) (fun i => s.size - (intOf i).toNat)
  case atStart => exact ⟨0, rfl, Nat.zero_le _, fun j h => absurd h (Nat.not_lt_zero _)⟩
  case round =>
    obtain ⟨p, rfl, hp, hall⟩ := hrel
    have HALL := Lib.hid hall; clear hall
    by_cases hlt : p < s.size
    · have hc := nl_any (bt s p) w
      have HC := Lib.hid hc; clear hc
      cases hfp : isNl (bt s p)
      · rw [hfp] at HC
        have HSP := Lib.hid (span_at hp HALL.out (fun _ => hfp))
        clear hfp
        go_wp2_with (go_at_call 12; refine HC.out.mono ?_; rintro e w' ⟨rfl, rfl⟩)
        go_ret
        exact ⟨by rw [HSP.out]; rfl, rfl⟩
      · rw [hfp] at HC
        have HN : Hid (∀ j, j < p + 1 → isNl (bt s j) = true) := fun j hj => by
          rcases Nat.lt_or_ge j p with h | h
          · exact HALL.out j h
          · obtain rfl : j = p := by omega
            exact hfp
        clear hfp
        go_wp2_with (go_at_call 12; refine HC.out.mono ?_; rintro e w' ⟨rfl, rfl⟩)
        go_round
        case rel => exact ⟨p + 1, by go_num, by omega, HN.out⟩
        case measure => simp [intOf]; omega
    · obtain rfl : p = s.size := by omega
      have HSP := Lib.hid (span_at hp HALL.out (fun h => absurd h (Nat.lt_irrefl _)))
      go_wp2_with fail
      go_ret
      exact ⟨by rw [HSP.out]; rfl, rfl⟩
set_option maxRecDepth 100000 in
theorem span_ld (s : ByteArray) (hs : s.size ≤ 9223372036854775807) (w : World) :
    Calls Tryd.prog 11 #[.string s, .func (.func 14) #[] #[]] w fun e w' => e = .returned (.int .i64 (spanF isLd s.data.toList : Nat)) ∧ w = w' := by
  go_enter Tryd.func11, Tryd.ntmps11
  go_wp2_with fail
  go_loop [5] (fun i => ∃ p : Nat, i = .int .i64 (p : Int) ∧ p ≤ s.size ∧ ∀ j, j < p → isLd (bt s j) = true) (fun i => s.size - (intOf i).toNat)
  case atStart => exact ⟨0, rfl, Nat.zero_le _, fun j h => absurd h (Nat.not_lt_zero _)⟩
  case round =>
    obtain ⟨p, rfl, hp, hall⟩ := hrel
    have HALL := Lib.hid hall; clear hall
    by_cases hlt : p < s.size
    · have hc := ld_any (bt s p) w
      have HC := Lib.hid hc; clear hc
      cases hfp : isLd (bt s p)
      · rw [hfp] at HC
        have HSP := Lib.hid (span_at hp HALL.out (fun _ => hfp))
        clear hfp
        go_wp2_with (go_at_call 14; refine HC.out.mono ?_; rintro e w' ⟨rfl, rfl⟩)
        go_ret
        exact ⟨by rw [HSP.out]; rfl, rfl⟩
      · rw [hfp] at HC
        have HN : Hid (∀ j, j < p + 1 → isLd (bt s j) = true) := fun j hj => by
          rcases Nat.lt_or_ge j p with h | h
          · exact HALL.out j h
          · obtain rfl : j = p := by omega
            exact hfp
        clear hfp
        go_wp2_with (go_at_call 14; refine HC.out.mono ?_; rintro e w' ⟨rfl, rfl⟩)
        go_round
        case rel => exact ⟨p + 1, by go_num, by omega, HN.out⟩
        case measure => simp [intOf]; omega
    · obtain rfl : p = s.size := by omega
      have HSP := Lib.hid (span_at hp HALL.out (fun h => absurd h (Nat.lt_irrefl _)))
      go_wp2_with fail
      go_ret
      exact ⟨by rw [HSP.out]; rfl, rfl⟩
set_option maxRecDepth 100000 in
theorem span_dg (s : ByteArray) (hs : s.size ≤ 9223372036854775807) (w : World) :
    Calls Tryd.prog 11 #[.string s, .func (.func 15) #[] #[]] w fun e w' => e = .returned (.int .i64 (spanF isDg s.data.toList : Nat)) ∧ w = w' := by
  go_enter Tryd.func11, Tryd.ntmps11
  go_wp2_with fail
  go_loop [5] (fun i => ∃ p : Nat, i = .int .i64 (p : Int) ∧ p ≤ s.size ∧ ∀ j, j < p → isDg (bt s j) = true) (fun i => s.size - (intOf i).toNat)
  case atStart => exact ⟨0, rfl, Nat.zero_le _, fun j h => absurd h (Nat.not_lt_zero _)⟩
  case round =>
    obtain ⟨p, rfl, hp, hall⟩ := hrel
    have HALL := Lib.hid hall; clear hall
    by_cases hlt : p < s.size
    · have hc := digit_any (bt s p) w
      have HC := Lib.hid hc; clear hc
      cases hfp : isDg (bt s p)
      · rw [hfp] at HC
        have HSP := Lib.hid (span_at hp HALL.out (fun _ => hfp))
        clear hfp
        go_wp2_with (go_at_call 15; refine HC.out.mono ?_; rintro e w' ⟨rfl, rfl⟩)
        go_ret
        exact ⟨by rw [HSP.out]; rfl, rfl⟩
      · rw [hfp] at HC
        have HN : Hid (∀ j, j < p + 1 → isDg (bt s j) = true) := fun j hj => by
          rcases Nat.lt_or_ge j p with h | h
          · exact HALL.out j h
          · obtain rfl : j = p := by omega
            exact hfp
        clear hfp
        go_wp2_with (go_at_call 15; refine HC.out.mono ?_; rintro e w' ⟨rfl, rfl⟩)
        go_round
        case rel => exact ⟨p + 1, by go_num, by omega, HN.out⟩
        case measure => simp [intOf]; omega
    · obtain rfl : p = s.size := by omega
      have HSP := Lib.hid (span_at hp HALL.out (fun h => absurd h (Nat.lt_irrefl _)))
      go_wp2_with fail
      go_ret
      exact ⟨by rw [HSP.out]; rfl, rfl⟩
end Go.Proofs.YtacjkdopbelcpaaDoor
