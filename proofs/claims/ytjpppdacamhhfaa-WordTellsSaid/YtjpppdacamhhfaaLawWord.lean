/- The laws WordTells and WordBack return true, walked. Conditions: the arguments are numbers of 64 bits. -/
import Derived.Test.YtjpppdacamhhfaaWord
namespace Go.Proofs.Ytjpppdacamhhfaa
open Go.RowKit

section
variable (a b : Int) (w : World) (h1 : -9223372036854775808 ≤ a) (h2 : a ≤ 9223372036854775807) (h3 : -9223372036854775808 ≤ b) (h4 : b ≤ 9223372036854775807)
include h1 h2 h3 h4

theorem wordTells_walk : Calls Try.prog 5 #[.int .i64 a, .int .i64 b] w fun e w' => e = .returned (.bool true) ∧ w = w' := by
  go_enter Try.func5, Try.ntmps5
  go_wp2_with (first
    | (go_at_call 31; refine (kind_any _ _ (by omega) (by omega)).mono ?_; rintro e w' ⟨rfl, rfl⟩)
    | (go_at_call 34; refine (rkind_any _ _ (by omega) (by omega)).mono ?_; rintro e w' ⟨rfl, rfl⟩)
    | (go_at_call 29; refine (small_any _ _ (by omega) (by omega)).mono ?_; rintro e w' ⟨rfl, rfl⟩)
    | (go_at_call 35; refine (rsmall_any _ _ (by omega) (by omega)).mono ?_; rintro e w' ⟨rfl, rfl⟩)
    | (go_at_call 30; refine (value_any _ _ (by omega) (by omega)).mono ?_; rintro e w' ⟨rfl, rfl⟩)
    | (go_at_call 36; refine (rvalue_any _ _ (by omega) (by omega)).mono ?_; rintro e w' ⟨rfl, rfl⟩))
  go_loop [15] (fun i => ∃ k : Int, 0 ≤ k ∧ k ≤ 3 ∧ i = .int .i64 k) (fun i => (3 - intOf i).toNat)
  case atStart => exact ⟨0, by omega, by omega, rfl⟩
  case round =>
    obtain ⟨k, hk1, hk2, rfl⟩ := hrel
    have hc : k = 0 ∨ k = 1 ∨ k = 2 ∨ k = 3 := by omega
    rcases hc with rfl | rfl | rfl | rfl
    all_goals
      go_wp2_with (first
        | (go_at_call 32; refine (add_any _ _ _ (by omega) (by omega) (by omega) (by omega)).mono ?_; rintro e w' ⟨rfl, rfl⟩)
        | (go_at_call 33; refine (sub_any _ _ _ (by omega) (by omega) (by omega) (by omega)).mono ?_; rintro e w' ⟨rfl, rfl⟩)
        | (go_at_call 37; refine (mul_any _ _ _ (by omega) (by omega) (by omega) (by omega)).mono ?_; rintro e w' ⟨rfl, rfl⟩)
        | (go_at_call 38; refine (reckon_any _ _ _ (by omega) (by omega) (by omega) (by omega) _ (by omega) (by omega)).mono ?_; rintro e w' ⟨rfl, rfl⟩)
        | (go_at_call 39; refine (less_any _ _ _ (by omega) (by omega) (by omega) (by omega)).mono ?_; rintro e w' ⟨rfl, rfl⟩)
        | (go_at_call 40; refine (rless_any _ _ _ (by omega) (by omega) (by omega) (by omega)).mono ?_; rintro e w' ⟨rfl, rfl⟩))
    · exact ⟨⟨1, by omega, by omega, rfl⟩, by decide⟩
    · exact ⟨⟨2, by omega, by omega, rfl⟩, by decide⟩
    · exact ⟨⟨3, by omega, by omega, rfl⟩, by decide⟩
    · go_ret
      exact ⟨rfl, rfl⟩

theorem wordBack_walk : Calls Try.prog 4 #[.int .i64 a, .int .i64 b] w fun e w' => e = .returned (.bool true) ∧ w = w' := by
  have s7 : smallOf 7 = 15 := by decide
  have i7 : inSmall 7 = true := by decide
  cases hn : inSmall a
  · have h0 := inSmall_false hn
    rcases h0 with h0 | h0
    all_goals
      go_enter Try.func4, Try.ntmps4
      go_wp2_with (go_at_call 29; refine (small_any _ _ (by omega) (by omega)).mono ?_; rintro e w' ⟨rfl, rfl⟩)
      go_ret
      exact ⟨rfl, rfl⟩
  · have sa := smallOf_bd a
    have sb := smallOf_bd b
    obtain ⟨sa1, sa2⟩ := sa; obtain ⟨sb1, sb2⟩ := sb
    have e1 := valueOf_smallOf hn
    have e2 := isSmall_smallOf hn
    have e3 := kd_smallOf hn
    cases hm : inSmall b
    · go_enter Try.func4, Try.ntmps4
      go_wp2_with (first
        | (go_at_call 29; refine (small_any _ _ (by omega) (by omega)).mono ?_; rintro e w' ⟨rfl, rfl⟩)
        | (go_at_call 31; refine (kind_any _ _ (by omega) (by omega)).mono ?_; rintro e w' ⟨rfl, rfl⟩)
        | (go_at_call 30; refine (value_any _ _ (by omega) (by omega)).mono ?_; rintro e w' ⟨rfl, rfl⟩))
      go_ret
      exact ⟨rfl, rfl⟩
    · obtain ⟨ia1, ia2⟩ := (inSmall_iff a).1 hn
      obtain ⟨ib1, ib2⟩ := (inSmall_iff b).1 hm
      have e4 : recB 0 (smallOf a) (smallOf b) = inSmall (a + b) := recB_small 0 hn hm
      have e5 : recV 0 (smallOf a) (smallOf b) = smallOf (a + b) := recV_small 0 hn hm
      have sc := smallOf_bd (a + b)
      obtain ⟨sc1, sc2⟩ := sc
      cases hs : inSmall (a + b)
      · have h0 := inSmall_false hs
        rcases h0 with h0 | h0
        all_goals
          go_enter Try.func4, Try.ntmps4
          go_wp2_with (first
            | (go_at_call 29; refine (small_any _ _ (by omega) (by omega)).mono ?_; rintro e w' ⟨rfl, rfl⟩)
            | (go_at_call 31; refine (kind_any _ _ (by omega) (by omega)).mono ?_; rintro e w' ⟨rfl, rfl⟩)
            | (go_at_call 32; refine (add_any _ _ _ (by omega) (by omega) (by omega) (by omega)).mono ?_; rintro e w' ⟨rfl, rfl⟩)
            | (go_at_call 30; refine (value_any _ _ (by omega) (by omega)).mono ?_; rintro e w' ⟨rfl, rfl⟩))
          go_ret
          exact ⟨rfl, rfl⟩
      · have e6 : recB 1 (smallOf (a + b)) (smallOf b) = true := by
          rw [recB_small 1 hs hm, show opOf 1 (a + b) b = a + b - b from rfl, show a + b - b = a from by omega, hn]
        have e7 : recV 1 (smallOf (a + b)) (smallOf b) = smallOf a := by
          rw [recV_small 1 hs hm, show opOf 1 (a + b) b = a + b - b from rfl, show a + b - b = a from by omega]
        go_enter Try.func4, Try.ntmps4
        go_wp2_with (first
          | (go_at_call 29; refine (small_any _ _ (by omega) (by omega)).mono ?_; rintro e w' ⟨rfl, rfl⟩)
          | (go_at_call 31; refine (kind_any _ _ (by omega) (by omega)).mono ?_; rintro e w' ⟨rfl, rfl⟩)
          | (go_at_call 32; refine (add_any _ _ _ (by omega) (by omega) (by omega) (by omega)).mono ?_; rintro e w' ⟨rfl, rfl⟩)
          | (go_at_call 33; refine (sub_any _ _ _ (by omega) (by omega) (by omega) (by omega)).mono ?_; rintro e w' ⟨rfl, rfl⟩)
          | (go_at_call 30; refine (value_any _ _ (by omega) (by omega)).mono ?_; rintro e w' ⟨rfl, rfl⟩))
        go_ret
        exact ⟨rfl, rfl⟩
end
end Go.Proofs.Ytjpppdacamhhfaa
