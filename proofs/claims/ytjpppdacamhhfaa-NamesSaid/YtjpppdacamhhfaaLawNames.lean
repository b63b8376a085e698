/- The law Names returns true, walked. Conditions: none. -/
import Derived.Test.YtjpppdacamhhfaaMem
namespace Go.Proofs.Ytjpppdacamhhfaa
open Go.RowKit

def arr1 : Array Value := #[.int .i64 0, .int .i64 1, .int .i64 2, .int .i64 3, .int .i64 4, .int .i64 5, .int .i64 6, .int .i64 7, .int .i64 8, .int .i64 9, .int .i64 10, .int .i64 11, .int .i64 12, .int .i64 13, .int .i64 14]
theorem arr1_at : ∀ j : Nat, j < 15 → arr1[j]? = some (.int .i64 j)
  | 0, _ => rfl
  | 1, _ => rfl
  | 2, _ => rfl
  | 3, _ => rfl
  | 4, _ => rfl
  | 5, _ => rfl
  | 6, _ => rfl
  | 7, _ => rfl
  | 8, _ => rfl
  | 9, _ => rfl
  | 10, _ => rfl
  | 11, _ => rfl
  | 12, _ => rfl
  | 13, _ => rfl
  | 14, _ => rfl
  | k + 15, h => absurd h (by omega)

def arr2 : Array Value := #[.int .i64 (-1073741824), .int .i64 1073741823, .int .i64 2000, .int .i64 60, .int .i64 10000, .int .i64 600, .int .i64 4000, .int .i64 20, .int .i64 600, .int .i64 30, .int .i64 40, .int .i64 8, .int .i64 300, .int .i64 1500, .int .i64 100]
theorem arr2_at : ∀ j : Nat, j < 15 → ∃ x : Int, arr2[j]? = some (.int .i64 x)
  | 0, _ => ⟨_, rfl⟩
  | 1, _ => ⟨_, rfl⟩
  | 2, _ => ⟨_, rfl⟩
  | 3, _ => ⟨_, rfl⟩
  | 4, _ => ⟨_, rfl⟩
  | 5, _ => ⟨_, rfl⟩
  | 6, _ => ⟨_, rfl⟩
  | 7, _ => ⟨_, rfl⟩
  | 8, _ => ⟨_, rfl⟩
  | 9, _ => ⟨_, rfl⟩
  | 10, _ => ⟨_, rfl⟩
  | 11, _ => ⟨_, rfl⟩
  | 12, _ => ⟨_, rfl⟩
  | 13, _ => ⟨_, rfl⟩
  | 14, _ => ⟨_, rfl⟩
  | k + 15, h => absurd h (by omega)

def arr3 : Array Value := #[.int .i64 0, .int .i64 1, .int .i64 2, .int .i64 3, .int .i64 0, .int .i64 1, .int .i64 2, .int .i64 0, .int .i64 1, .int .i64 2]
theorem arr3_at : ∀ j : Nat, j < 10 → ∃ x : Int, arr3[j]? = some (.int .i64 x)
  | 0, _ => ⟨_, rfl⟩
  | 1, _ => ⟨_, rfl⟩
  | 2, _ => ⟨_, rfl⟩
  | 3, _ => ⟨_, rfl⟩
  | 4, _ => ⟨_, rfl⟩
  | 5, _ => ⟨_, rfl⟩
  | 6, _ => ⟨_, rfl⟩
  | 7, _ => ⟨_, rfl⟩
  | 8, _ => ⟨_, rfl⟩
  | 9, _ => ⟨_, rfl⟩
  | k + 10, h => absurd h (by omega)

def arr4 : Array Value := #[.int .i64 1, .int .i64 2, .int .i64 3, .int .i64 4, .int .i64 1, .int .i64 2, .int .i64 3, .int .i64 4, .int .i64 5, .int .i64 6, .int .i64 1, .int .i64 2, .int .i64 3, .int .i64 4, .int .i64 (-3), .int .i64 (-2), .int .i64 (-1)]
theorem arr4_at : ∀ j : Nat, j < 17 → ∃ x : Int, arr4[j]? = some (.int .i64 x)
  | 0, _ => ⟨_, rfl⟩
  | 1, _ => ⟨_, rfl⟩
  | 2, _ => ⟨_, rfl⟩
  | 3, _ => ⟨_, rfl⟩
  | 4, _ => ⟨_, rfl⟩
  | 5, _ => ⟨_, rfl⟩
  | 6, _ => ⟨_, rfl⟩
  | 7, _ => ⟨_, rfl⟩
  | 8, _ => ⟨_, rfl⟩
  | 9, _ => ⟨_, rfl⟩
  | 10, _ => ⟨_, rfl⟩
  | 11, _ => ⟨_, rfl⟩
  | 12, _ => ⟨_, rfl⟩
  | 13, _ => ⟨_, rfl⟩
  | 14, _ => ⟨_, rfl⟩
  | 15, _ => ⟨_, rfl⟩
  | 16, _ => ⟨_, rfl⟩
  | k + 17, h => absurd h (by omega)

def arr5 : Array Value := #[.int .i64 1, .int .i64 2, .int .i64 3, .int .i64 4, .int .i64 5, .int .i64 6, .int .i64 7, .int .i64 8, .int .i64 9, .int .i64 10, .int .i64 11, .int .i64 12, .int .i64 13, .int .i64 14, .int .i64 15, .int .i64 16, .int .i64 17, .int .i64 18, .int .i64 19, .int .i64 20, .int .i64 21, .int .i64 22, .int .i64 23, .int .i64 24, .int .i64 25, .int .i64 26, .int .i64 27, .int .i64 28, .int .i64 29, .int .i64 30, .int .i64 31]
theorem arr5_at : ∀ j : Nat, j < 31 → arr5[j]? = some (.int .i64 (j + 1))
  | 0, _ => rfl
  | 1, _ => rfl
  | 2, _ => rfl
  | 3, _ => rfl
  | 4, _ => rfl
  | 5, _ => rfl
  | 6, _ => rfl
  | 7, _ => rfl
  | 8, _ => rfl
  | 9, _ => rfl
  | 10, _ => rfl
  | 11, _ => rfl
  | 12, _ => rfl
  | 13, _ => rfl
  | 14, _ => rfl
  | 15, _ => rfl
  | 16, _ => rfl
  | 17, _ => rfl
  | 18, _ => rfl
  | 19, _ => rfl
  | 20, _ => rfl
  | 21, _ => rfl
  | 22, _ => rfl
  | 23, _ => rfl
  | 24, _ => rfl
  | 25, _ => rfl
  | 26, _ => rfl
  | 27, _ => rfl
  | 28, _ => rfl
  | 29, _ => rfl
  | 30, _ => rfl
  | k + 31, h => absurd h (by omega)

def arr6 : Array Value := #[.int .i64 1, .int .i64 2, .int .i64 3, .int .i64 4, .int .i64 5, .int .i64 6, .int .i64 7, .int .i64 8, .int .i64 9, .int .i64 10, .int .i64 11, .int .i64 12, .int .i64 13, .int .i64 14, .int .i64 15, .int .i64 16, .int .i64 17, .int .i64 18, .int .i64 19, .int .i64 20, .int .i64 21, .int .i64 22, .int .i64 23, .int .i64 24, .int .i64 25, .int .i64 26, .int .i64 27]
theorem arr6_at : ∀ j : Nat, j < 27 → arr6[j]? = some (.int .i64 (j + 1))
  | 0, _ => rfl
  | 1, _ => rfl
  | 2, _ => rfl
  | 3, _ => rfl
  | 4, _ => rfl
  | 5, _ => rfl
  | 6, _ => rfl
  | 7, _ => rfl
  | 8, _ => rfl
  | 9, _ => rfl
  | 10, _ => rfl
  | 11, _ => rfl
  | 12, _ => rfl
  | 13, _ => rfl
  | 14, _ => rfl
  | 15, _ => rfl
  | 16, _ => rfl
  | 17, _ => rfl
  | 18, _ => rfl
  | 19, _ => rfl
  | 20, _ => rfl
  | 21, _ => rfl
  | 22, _ => rfl
  | 23, _ => rfl
  | 24, _ => rfl
  | 25, _ => rfl
  | 26, _ => rfl
  | k + 27, h => absurd h (by omega)

set_option maxRecDepth 100000 in
set_option maxHeartbeats 1000000 in
theorem names_walk (w : World) : Calls Try.prog 3 #[] w fun e w' => e = .returned (.bool true) ∧ Below w.heap.size w w' := by
  go_enter Try.func3, Try.ntmps3
  go_wp2
  go_loopw [2] (fun i w' => ∃ k : Nat, k ≤ 15 ∧ i = .int .i64 k ∧ Below w.heap.size w w' ∧ w.heap.size ≤ w'.heap.size ∧ (∀ j : Nat, j < 15 → w'.cell? ⟨w.heap.size, j, none⟩ = some (.int .i64 j))) (fun i _ => 15 - (intOf i).toNat)
  case atStart =>
    exact ⟨0, by omega, rfl, (Below.refl _ _).alloc (Nat.le_refl _) _, by simp, fun j hj => (cell_new w arr1 3 (0, 0) j).trans (arr1_at j hj)⟩
  case round =>
    obtain ⟨k, hk, rfl, hb1, hz1, hc⟩ := hrel
    by_cases hlt : k < 15
    · have hck := hc k hlt
      have HC := Lib.hid hc; clear hc
      go_wp2
      go_roundw
      case rel => exact ⟨k + 1, by omega, by go_num, hb1, hz1, HC.out⟩
      case measure => simp [intOf]; omega
    · obtain rfl : k = 15 := by omega
      obtain ⟨W1, rfl⟩ : ∃ W1 : World, W1 = wr := ⟨_, rfl⟩
      clear hc
      go_wp2
      go_loopw [4] (fun i w' => ∃ k : Nat, k ≤ 15 ∧ i = .int .i64 k ∧ Below w.heap.size w w' ∧ w.heap.size ≤ w'.heap.size ∧ (∀ j : Nat, j < 15 → ∃ x : Int, w'.cell? ⟨W1.heap.size, j, none⟩ = some (.int .i64 x) ∧ w'.cell? ⟨W1.heap.size + 1, j, none⟩ = some (.int .i64 x))) (fun i _ => 15 - (intOf i).toNat)
      case atStart =>
        refine ⟨0, by omega, rfl, (hb1.alloc hz1 _).alloc (by simp; omega) _, by simp; omega, fun j hj => ?_⟩
        obtain ⟨x, hx⟩ := arr2_at j hj
        exact ⟨x, ((cell_old _ _ _ j (by simp)).trans (cell_new W1 arr2 3 (0, 0) j)).trans hx, (cell_new2 W1 (.cells arr2 3) arr2 3 (0, 0) j).trans hx⟩
      case round =>
        obtain ⟨k, hk, rfl, hb2, hz2, hc⟩ := hrel
        by_cases hlt : k < 15
        · obtain ⟨x, hx1, hx2⟩ := hc k hlt
          have HC := Lib.hid hc; clear hc
          go_wp2
          go_quiet (fail)
          go_wp2
          go_roundw
          case rel => exact ⟨k + 1, by omega, by go_num, (by first | exact hb2 | exact below_drewN hb2 _), hz2, HC.out⟩
          case measure => simp [intOf]; omega
        · obtain rfl : k = 15 := by omega
          obtain ⟨W2, rfl⟩ : ∃ W2 : World, W2 = wr := ⟨_, rfl⟩
          clear hc
          go_wp2
          go_loopw [5] (fun i w' => ∃ k : Nat, k ≤ 10 ∧ i = .int .i64 k ∧ Below w.heap.size w w' ∧ w.heap.size ≤ w'.heap.size ∧ (∀ j : Nat, j < 10 → ∃ x : Int, w'.cell? ⟨W2.heap.size, j, none⟩ = some (.int .i64 x) ∧ w'.cell? ⟨W2.heap.size + 1, j, none⟩ = some (.int .i64 x))) (fun i _ => 10 - (intOf i).toNat)
          case atStart =>
            refine ⟨0, by omega, rfl, (hb2.alloc hz2 _).alloc (by simp; omega) _, by simp; omega, fun j hj => ?_⟩
            obtain ⟨x, hx⟩ := arr3_at j hj
            exact ⟨x, ((cell_old _ _ _ j (by simp)).trans (cell_new W2 arr3 3 (0, 0) j)).trans hx, (cell_new2 W2 (.cells arr3 3) arr3 3 (0, 0) j).trans hx⟩
          case round =>
            obtain ⟨k, hk, rfl, hb3, hz3, hc⟩ := hrel
            by_cases hlt : k < 10
            · obtain ⟨x, hx1, hx2⟩ := hc k hlt
              have HC := Lib.hid hc; clear hc
              go_wp2
              go_quiet (fail)
              go_wp2
              go_roundw
              case rel => exact ⟨k + 1, by omega, by go_num, (by first | exact hb3 | exact below_drewN hb3 _), hz3, HC.out⟩
              case measure => simp [intOf]; omega
            · obtain rfl : k = 10 := by omega
              obtain ⟨W3, rfl⟩ : ∃ W3 : World, W3 = wr := ⟨_, rfl⟩
              clear hc
              go_wp2
              go_loopw [6] (fun i w' => ∃ k : Nat, k ≤ 17 ∧ i = .int .i64 k ∧ Below w.heap.size w w' ∧ w.heap.size ≤ w'.heap.size ∧ (∀ j : Nat, j < 17 → ∃ x : Int, w'.cell? ⟨W3.heap.size, j, none⟩ = some (.int .i64 x) ∧ w'.cell? ⟨W3.heap.size + 1, j, none⟩ = some (.int .i64 x))) (fun i _ => 17 - (intOf i).toNat)
              case atStart =>
                refine ⟨0, by omega, rfl, (hb3.alloc hz3 _).alloc (by simp; omega) _, by simp; omega, fun j hj => ?_⟩
                obtain ⟨x, hx⟩ := arr4_at j hj
                exact ⟨x, ((cell_old _ _ _ j (by simp)).trans (cell_new W3 arr4 3 (0, 0) j)).trans hx, (cell_new2 W3 (.cells arr4 3) arr4 3 (0, 0) j).trans hx⟩
              case round =>
                obtain ⟨k, hk, rfl, hb4, hz4, hc⟩ := hrel
                by_cases hlt : k < 17
                · obtain ⟨x, hx1, hx2⟩ := hc k hlt
                  have HC := Lib.hid hc; clear hc
                  go_wp2
                  go_quiet (fail)
                  go_wp2
                  go_roundw
                  case rel => exact ⟨k + 1, by omega, by go_num, (by first | exact hb4 | exact below_drewN hb4 _), hz4, HC.out⟩
                  case measure => simp [intOf]; omega
                · obtain rfl : k = 17 := by omega
                  obtain ⟨W4, rfl⟩ : ∃ W4 : World, W4 = wr := ⟨_, rfl⟩
                  clear hc
                  go_wp2
                  go_loopw [7] (fun i w' => ∃ k : Nat, k ≤ 31 ∧ i = .int .i64 k ∧ Below w.heap.size w w' ∧ w.heap.size ≤ w'.heap.size ∧ (∀ j : Nat, j < 31 → w'.cell? ⟨W4.heap.size, j, none⟩ = some (.int .i64 (j + 1)))) (fun i _ => 31 - (intOf i).toNat)
                  case atStart =>
                    exact ⟨0, by omega, rfl, hb4.alloc hz4 _, by simp; omega, fun j hj => (cell_new W4 arr5 3 (0, 0) j).trans (arr5_at j hj)⟩
                  case round =>
                    obtain ⟨k, hk, rfl, hb5, hz5, hc⟩ := hrel
                    by_cases hlt : k < 31
                    · have hck := hc k hlt
                      have HC := Lib.hid hc; clear hc
                      go_wp2
                      go_roundw
                      case rel => exact ⟨k + 1, by omega, by go_num, hb5, hz5, HC.out⟩
                      case measure => simp [intOf]; omega
                    · obtain rfl : k = 31 := by omega
                      obtain ⟨W5, rfl⟩ : ∃ W5 : World, W5 = wr := ⟨_, rfl⟩
                      clear hc
                      go_wp2
                      go_loopw [8] (fun i w' => ∃ k : Nat, k ≤ 27 ∧ i = .int .i64 k ∧ Below w.heap.size w w' ∧ w.heap.size ≤ w'.heap.size ∧ (∀ j : Nat, j < 27 → w'.cell? ⟨W5.heap.size, j, none⟩ = some (.int .i64 (j + 1)))) (fun i _ => 27 - (intOf i).toNat)
                      case atStart =>
                        exact ⟨0, by omega, rfl, hb5.alloc hz5 _, by simp; omega, fun j hj => (cell_new W5 arr6 3 (0, 0) j).trans (arr6_at j hj)⟩
                      case round =>
                        obtain ⟨k, hk, rfl, hb6, hz6, hc⟩ := hrel
                        by_cases hlt : k < 27
                        · have hck := hc k hlt
                          have HC := Lib.hid hc; clear hc
                          go_wp2
                          go_roundw
                          case rel => exact ⟨k + 1, by omega, by go_num, hb6, hz6, HC.out⟩
                          case measure => simp [intOf]; omega
                        · obtain rfl : k = 27 := by omega
                          obtain ⟨W6, rfl⟩ : ∃ W6 : World, W6 = wr := ⟨_, rfl⟩
                          clear hc
                          go_wp2
                          go_ret
                          exact ⟨rfl, hb6⟩

end Go.Proofs.Ytjpppdacamhhfaa
