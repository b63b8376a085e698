/- The functions of the packages word and gessoref1 that speak of words compute the plain functions of the text Spec. Conditions: the arguments are numbers of 64 bits. -/
import Derived.Test.YtjpppdacamhhfaaKit
import Derived.Test.YtjpppdacamhhfaaSpec
namespace Go.Proofs.Ytjpppdacamhhfaa
open Go.RowKit
set_option linter.unusedVariables false

theorem kind_any (o : Int) (w : World) (h1 : -9223372036854775808 ≤ o) (h2 : o ≤ 9223372036854775807) :
    Calls Try.prog 31 #[.int .i64 o] w fun e w' => e = .returned (.int .i64 (kd o)) ∧ w = w' := by
  by_cases hb : -9223372036854775808 = o
  · subst hb
    go_enter Try.func31, Try.ntmps31
    go_wp2
    go_ret
    exact ⟨rfl, rfl⟩
  go_enter Try.func31, Try.ntmps31
  go_wp2
  all_goals go_ret
  all_goals refine ⟨ret_int ?_, rfl⟩
  all_goals (try have hw := IntWalk.wrap64_in (o - 1) (by omega); try rw [hw] at *)
  all_goals simp only [beq_iff_eq, beq_eq_false_iff_ne, ne_eq] at *
  all_goals unfold kd
  all_goals repeat' split
  all_goals omega

theorem rkind_any (o : Int) (w : World) (h1 : -9223372036854775808 ≤ o) (h2 : o ≤ 9223372036854775807) :
    Calls Try.prog 34 #[.int .i64 o] w fun e w' => e = .returned (.int .i64 (kd o)) ∧ w = w' := by
  go_enter Try.func34, Try.ntmps34
  go_wp2
  all_goals go_ret
  all_goals refine ⟨ret_int ?_, rfl⟩
  all_goals simp only [beq_iff_eq, beq_eq_false_iff_ne, ne_eq] at *
  all_goals unfold kd
  all_goals repeat' split
  all_goals omega

theorem small_any (n : Int) (w : World) (h1 : -9223372036854775808 ≤ n) (h2 : n ≤ 9223372036854775807) :
    Calls Try.prog 29 #[.int .i64 n] w fun e w' => e = .returned (.tuple #[.int .i64 (smallOf n), .bool (inSmall n)]) ∧ w = w' := by
  go_enter Try.func29, Try.ntmps29
  go_wp2
  all_goals go_ret2
  all_goals refine ⟨ret_int_bool ?_ ?_, rfl⟩
  all_goals simp only [smallOf, inSmall]
  all_goals (try split)
  all_goals simp_all
  all_goals omega

theorem rsmall_any (n : Int) (w : World) (h1 : -9223372036854775808 ≤ n) (h2 : n ≤ 9223372036854775807) :
    Calls Try.prog 35 #[.int .i64 n] w fun e w' => e = .returned (.tuple #[.int .i64 (smallOf n), .bool (inSmall n)]) ∧ w = w' := by
  go_enter Try.func35, Try.ntmps35
  go_wp2
  all_goals go_ret2
  all_goals refine ⟨ret_int_bool ?_ ?_, rfl⟩
  all_goals simp only [smallOf, inSmall]
  all_goals (try split)
  all_goals simp_all
  all_goals omega

theorem small_of_kd {o : Int} (h : (kd o != 1) = false) : isSmall o = true := by simpa [isSmall] using h
theorem nsmall_of_kd {o : Int} (h : (kd o != 1) = true) : isSmall o = false := by simpa [isSmall] using h

theorem value_any (o : Int) (w : World) (h1 : -9223372036854775808 ≤ o) (h2 : o ≤ 9223372036854775807) :
    Calls Try.prog 30 #[.int .i64 o] w fun e w' => e = .returned (.tuple #[.int .i64 (valueOf o), .bool (isSmall o)]) ∧ w = w' := by
  go_enter Try.func30, Try.ntmps30
  go_wp2_with (go_at_call 31; refine (kind_any _ _ h1 h2).mono ?_; rintro e w' ⟨rfl, rfl⟩)
  · rename_i h
    have hs := nsmall_of_kd h
    go_ret2
    exact ⟨ret_int_bool (by simp [valueOf, hs]) hs.symm, rfl⟩
  · rename_i h
    have hs := small_of_kd h
    have hb := (isSmall_iff o).1 hs
    go_ret2
    exact ⟨ret_int_bool (by rw [IntWalk.wrap64_in _ (by omega)]; simp [valueOf, hs]) hs.symm, rfl⟩

theorem rvalue_any (o : Int) (w : World) (h1 : -9223372036854775808 ≤ o) (h2 : o ≤ 9223372036854775807) :
    Calls Try.prog 36 #[.int .i64 o] w fun e w' => e = .returned (.tuple #[.int .i64 (valueOf o), .bool (isSmall o)]) ∧ w = w' := by
  by_cases hs : isSmall o = true
  · obtain ⟨hp, hl, hu⟩ := (isSmall_iff o).1 hs
    have hk : (kd o != 1) = false := by simpa [isSmall] using hs
    have Hp := Lib.hid hp; clear hp
    go_enter Try.func36, Try.ntmps36
    go_wp2_with (go_at_call 34; refine (rkind_any _ _ h1 h2).mono ?_; rintro e w' ⟨rfl, rfl⟩)
    go_ret2
    exact ⟨ret_int_bool (by rw [tdiv2_even _ (by have := Hp.out; omega)]; simp [valueOf, hs]) hs.symm, rfl⟩
  · have hk : (kd o != 1) = true := by simpa [isSmall] using hs
    go_enter Try.func36, Try.ntmps36
    go_wp2_with (go_at_call 34; refine (rkind_any _ _ h1 h2).mono ?_; rintro e w' ⟨rfl, rfl⟩)
    go_ret2
    exact ⟨ret_int_bool (by simp [valueOf, hs]) (by simp [hs]), rfl⟩

section
variable (a b : Int) (w : World) (h1 : -9223372036854775808 ≤ a) (h2 : a ≤ 9223372036854775807) (h3 : -9223372036854775808 ≤ b) (h4 : b ≤ 9223372036854775807)
include h1 h2 h3 h4

theorem add_any : Calls Try.prog 32 #[.int .i64 a, .int .i64 b] w fun e w' => e = .returned (.tuple #[.int .i64 (recV 0 a b), .bool (recB 0 a b)]) ∧ w = w' := by
  have hm := mul_bd _ _ (valueOf_bd a) (valueOf_bd b)
  have ha := valueOf_bd a; have hb := valueOf_bd b
  obtain ⟨ha1, ha2⟩ := ha; obtain ⟨hb1, hb2⟩ := hb; obtain ⟨hm1, hm2⟩ := hm
  cases hs : isSmall a <;> cases ht : isSmall b
  all_goals
    go_enter Try.func32, Try.ntmps32
    go_wp2_with (first | (go_at_call 30; refine (value_any _ _ (by omega) (by omega)).mono ?_; rintro e w' ⟨rfl, rfl⟩) | (go_at_call 29; refine (small_any _ _ (by omega) (by omega)).mono ?_; rintro e w' ⟨rfl, rfl⟩) | go_in)
    go_ret2
    exact ⟨ret_int_bool (by simp [recV, opOf, hs, ht]) (by simp [recB, opOf, hs, ht]), rfl⟩

theorem sub_any : Calls Try.prog 33 #[.int .i64 a, .int .i64 b] w fun e w' => e = .returned (.tuple #[.int .i64 (recV 1 a b), .bool (recB 1 a b)]) ∧ w = w' := by
  have hm := mul_bd _ _ (valueOf_bd a) (valueOf_bd b)
  have ha := valueOf_bd a; have hb := valueOf_bd b
  obtain ⟨ha1, ha2⟩ := ha; obtain ⟨hb1, hb2⟩ := hb; obtain ⟨hm1, hm2⟩ := hm
  cases hs : isSmall a <;> cases ht : isSmall b
  all_goals
    go_enter Try.func33, Try.ntmps33
    go_wp2_with (first | (go_at_call 30; refine (value_any _ _ (by omega) (by omega)).mono ?_; rintro e w' ⟨rfl, rfl⟩) | (go_at_call 29; refine (small_any _ _ (by omega) (by omega)).mono ?_; rintro e w' ⟨rfl, rfl⟩) | go_in)
    go_ret2
    exact ⟨ret_int_bool (by simp [recV, opOf, hs, ht]) (by simp [recB, opOf, hs, ht]), rfl⟩

theorem mul_any : Calls Try.prog 37 #[.int .i64 a, .int .i64 b] w fun e w' => e = .returned (.tuple #[.int .i64 (recV 2 a b), .bool (recB 2 a b)]) ∧ w = w' := by
  have hm := mul_bd _ _ (valueOf_bd a) (valueOf_bd b)
  have ha := valueOf_bd a; have hb := valueOf_bd b
  obtain ⟨ha1, ha2⟩ := ha; obtain ⟨hb1, hb2⟩ := hb; obtain ⟨hm1, hm2⟩ := hm
  cases hs : isSmall a <;> cases ht : isSmall b
  all_goals
    go_enter Try.func37, Try.ntmps37
    go_wp2_with (first | (go_at_call 30; refine (value_any _ _ (by omega) (by omega)).mono ?_; rintro e w' ⟨rfl, rfl⟩) | (go_at_call 29; refine (small_any _ _ (by omega) (by omega)).mono ?_; rintro e w' ⟨rfl, rfl⟩) | go_in)
    go_ret2
    exact ⟨ret_int_bool (by simp [recV, opOf, hs, ht]) (by simp [recB, opOf, hs, ht]), rfl⟩

theorem reckon0_any : Calls Try.prog 38 #[.int .i64 0, .int .i64 a, .int .i64 b] w fun e w' => e = .returned (.tuple #[.int .i64 (recV 0 a b), .bool (recB 0 a b)]) ∧ w = w' := by
  have hm := mul_bd _ _ (valueOf_bd a) (valueOf_bd b)
  have ha := valueOf_bd a; have hb := valueOf_bd b
  obtain ⟨ha1, ha2⟩ := ha; obtain ⟨hb1, hb2⟩ := hb; obtain ⟨hm1, hm2⟩ := hm
  cases hs : isSmall a <;> cases ht : isSmall b
  all_goals
    go_enter Try.func38, Try.ntmps38
    go_wp2_with (first | (go_at_call 36; refine (rvalue_any _ _ (by omega) (by omega)).mono ?_; rintro e w' ⟨rfl, rfl⟩) | (go_at_call 35; refine (rsmall_any _ _ (by omega) (by omega)).mono ?_; rintro e w' ⟨rfl, rfl⟩))
    go_ret2
    exact ⟨ret_int_bool (by simp [recV, opOf, hs, ht]) (by simp [recB, opOf, hs, ht]), rfl⟩

theorem reckon1_any : Calls Try.prog 38 #[.int .i64 1, .int .i64 a, .int .i64 b] w fun e w' => e = .returned (.tuple #[.int .i64 (recV 1 a b), .bool (recB 1 a b)]) ∧ w = w' := by
  have hm := mul_bd _ _ (valueOf_bd a) (valueOf_bd b)
  have ha := valueOf_bd a; have hb := valueOf_bd b
  obtain ⟨ha1, ha2⟩ := ha; obtain ⟨hb1, hb2⟩ := hb; obtain ⟨hm1, hm2⟩ := hm
  cases hs : isSmall a <;> cases ht : isSmall b
  all_goals
    go_enter Try.func38, Try.ntmps38
    go_wp2_with (first | (go_at_call 36; refine (rvalue_any _ _ (by omega) (by omega)).mono ?_; rintro e w' ⟨rfl, rfl⟩) | (go_at_call 35; refine (rsmall_any _ _ (by omega) (by omega)).mono ?_; rintro e w' ⟨rfl, rfl⟩))
    go_ret2
    exact ⟨ret_int_bool (by simp [recV, opOf, hs, ht]) (by simp [recB, opOf, hs, ht]), rfl⟩

theorem reckon2_any : Calls Try.prog 38 #[.int .i64 2, .int .i64 a, .int .i64 b] w fun e w' => e = .returned (.tuple #[.int .i64 (recV 2 a b), .bool (recB 2 a b)]) ∧ w = w' := by
  have hm := mul_bd _ _ (valueOf_bd a) (valueOf_bd b)
  have ha := valueOf_bd a; have hb := valueOf_bd b
  obtain ⟨ha1, ha2⟩ := ha; obtain ⟨hb1, hb2⟩ := hb; obtain ⟨hm1, hm2⟩ := hm
  cases hs : isSmall a <;> cases ht : isSmall b
  all_goals
    go_enter Try.func38, Try.ntmps38
    go_wp2_with (first | (go_at_call 36; refine (rvalue_any _ _ (by omega) (by omega)).mono ?_; rintro e w' ⟨rfl, rfl⟩) | (go_at_call 35; refine (rsmall_any _ _ (by omega) (by omega)).mono ?_; rintro e w' ⟨rfl, rfl⟩))
    go_ret2
    exact ⟨ret_int_bool (by simp [recV, opOf, hs, ht]) (by simp [recB, opOf, hs, ht]), rfl⟩

theorem reckon_any (op : Int) (h5 : 0 ≤ op) (h6 : op ≤ 2) : Calls Try.prog 38 #[.int .i64 op, .int .i64 a, .int .i64 b] w fun e w' => e = .returned (.tuple #[.int .i64 (recV op a b), .bool (recB op a b)]) ∧ w = w' := by
  have hc : op = 0 ∨ op = 1 ∨ op = 2 := by omega
  rcases hc with rfl | rfl | rfl
  · exact reckon0_any a b w h1 h2 h3 h4
  · exact reckon1_any a b w h1 h2 h3 h4
  · exact reckon2_any a b w h1 h2 h3 h4

theorem less_any : Calls Try.prog 39 #[.int .i64 a, .int .i64 b] w fun e w' => e = .returned (.tuple #[.bool (lessB a b), .bool (bothB a b)]) ∧ w = w' := by
  have ha := valueOf_bd a; have hb := valueOf_bd b
  obtain ⟨ha1, ha2⟩ := ha; obtain ⟨hb1, hb2⟩ := hb
  cases hs : isSmall a <;> cases ht : isSmall b
  all_goals
    go_enter Try.func39, Try.ntmps39
    go_wp2_with (go_at_call 30; refine (value_any _ _ (by omega) (by omega)).mono ?_; rintro e w' ⟨rfl, rfl⟩)
    all_goals go_ret2
    all_goals exact ⟨ret_bool2 (by simp [lessB, hs, ht]) (by simp [bothB, hs, ht]), rfl⟩

theorem rless_any : Calls Try.prog 40 #[.int .i64 a, .int .i64 b] w fun e w' => e = .returned (.tuple #[.bool (lessB a b), .bool (bothB a b)]) ∧ w = w' := by
  have ha := valueOf_bd a; have hb := valueOf_bd b
  obtain ⟨ha1, ha2⟩ := ha; obtain ⟨hb1, hb2⟩ := hb
  cases hs : isSmall a <;> cases ht : isSmall b
  all_goals
    go_enter Try.func40, Try.ntmps40
    go_wp2_with (go_at_call 36; refine (rvalue_any _ _ (by omega) (by omega)).mono ?_; rintro e w' ⟨rfl, rfl⟩)
    all_goals go_ret2
    all_goals exact ⟨ret_bool2 (by simp [lessB, hs, ht]) (by simp [bothB, hs, ht]), rfl⟩

end

end Go.Proofs.Ytjpppdacamhhfaa
