/- The plain functions that the Go texts compute: words. No program in sight. Conditions: none. -/
namespace Go.Proofs.Ytjpppdacamhhfaa

/-- What a reference is of: 1 small, 2 nil, 3 thing, 0 none. -/
def kd (o : Int) : Int :=
  if o = 0 then 2 else if o % 2 = 1 then (if -2147483647 ≤ o ∧ o ≤ 2147483647 then 1 else 0)
  else if 4 ≤ o ∧ o ≤ 3998 then 3 else 0

def inSmall (n : Int) : Bool := decide (-1073741824 ≤ n ∧ n ≤ 1073741823)
def smallOf (n : Int) : Int := if inSmall n then 2 * n + 1 else 0
def isSmall (o : Int) : Bool := kd o == 1
def valueOf (o : Int) : Int := if isSmall o then (o - 1) / 2 else 0

theorem isSmall_iff (o : Int) : isSmall o = true ↔ o % 2 = 1 ∧ -2147483647 ≤ o ∧ o ≤ 2147483647 := by
  unfold isSmall kd; split <;> (try split) <;> (try split) <;> simp <;> omega
theorem kd_three (o : Int) : kd o = 3 ↔ o % 2 = 0 ∧ 4 ≤ o ∧ o ≤ 3998 := by
  unfold kd; split <;> (try split) <;> (try split) <;> simp <;> omega
theorem inSmall_iff (n : Int) : inSmall n = true ↔ -1073741824 ≤ n ∧ n ≤ 1073741823 := by simp [inSmall]

theorem valueOf_bd (o : Int) : -1073741824 ≤ valueOf o ∧ valueOf o ≤ 1073741823 := by
  unfold valueOf
  split
  · rename_i h; have := (isSmall_iff o).1 h; omega
  · omega
theorem mul_bd (x y : Int) (hx : -1073741824 ≤ x ∧ x ≤ 1073741823) (hy : -1073741824 ≤ y ∧ y ≤ 1073741823) :
    -1152921504606846976 ≤ x * y ∧ x * y ≤ 1152921504606846976 := by
  have h : (x * y).natAbs ≤ 1073741824 * 1073741824 := by
    rw [Int.natAbs_mul]; exact Nat.mul_le_mul (by omega) (by omega)
  omega
def opOf (op x y : Int) : Int := if op = 0 then x + y else if op = 1 then x - y else x * y
def recB (op a b : Int) : Bool := isSmall a && isSmall b && inSmall (opOf op (valueOf a) (valueOf b))
def recV (op a b : Int) : Int := if isSmall a && isSmall b then smallOf (opOf op (valueOf a) (valueOf b)) else 0
def lessB (a b : Int) : Bool := isSmall a && isSmall b && decide (valueOf a < valueOf b)
def bothB (a b : Int) : Bool := isSmall a && isSmall b
theorem opOf_bd (op x y : Int) (hx : -1073741824 ≤ x ∧ x ≤ 1073741823) (hy : -1073741824 ≤ y ∧ y ≤ 1073741823) :
    -9223372036854775808 ≤ opOf op x y ∧ opOf op x y ≤ 9223372036854775807 := by
  have := mul_bd x y hx hy
  unfold opOf; split <;> (try split) <;> omega

theorem smallOf_bd (n : Int) : -2147483647 ≤ smallOf n ∧ smallOf n ≤ 2147483647 := by
  unfold smallOf; split
  · rename_i h; have := (inSmall_iff n).1 h; omega
  · omega
theorem isSmall_smallOf {n : Int} (h : inSmall n = true) : isSmall (smallOf n) = true := by
  have := (inSmall_iff n).1 h
  rw [isSmall_iff]; simp only [smallOf, h, if_true]; omega
theorem kd_smallOf {n : Int} (h : inSmall n = true) : kd (smallOf n) = 1 := by
  have := isSmall_smallOf h; simpa [isSmall] using this
theorem valueOf_smallOf {n : Int} (h : inSmall n = true) : valueOf (smallOf n) = n := by
  have h' := isSmall_smallOf h
  unfold valueOf; rw [if_pos h']; simp only [smallOf, h, if_true]; omega
theorem recB_small (op : Int) {n m : Int} (h : inSmall n = true) (h' : inSmall m = true) : recB op (smallOf n) (smallOf m) = inSmall (opOf op n m) := by
  simp [recB, isSmall_smallOf h, isSmall_smallOf h', valueOf_smallOf h, valueOf_smallOf h']
theorem recV_small (op : Int) {n m : Int} (h : inSmall n = true) (h' : inSmall m = true) : recV op (smallOf n) (smallOf m) = smallOf (opOf op n m) := by
  simp [recV, isSmall_smallOf h, isSmall_smallOf h', valueOf_smallOf h, valueOf_smallOf h']

theorem inSmall_false {n : Int} (h : inSmall n = false) : n < -1073741824 ∨ 1073741823 < n := by
  rcases Int.lt_or_le n (-1073741824) with h1 | h1
  · exact .inl h1
  · rcases Int.lt_or_le 1073741823 n with h2 | h2
    · exact .inr h2
    · have := (inSmall_iff n).2 ⟨h1, h2⟩; rw [this] at h; cases h

end Go.Proofs.Ytjpppdacamhhfaa
