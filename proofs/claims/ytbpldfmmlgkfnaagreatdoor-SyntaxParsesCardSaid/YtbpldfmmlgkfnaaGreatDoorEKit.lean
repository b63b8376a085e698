/- Small lemmas that all later texts of this seat share: bit operations, words for memory. Conditions: none. -/
import Derived.Test.YtbpldfmmlgkfnaaGreatDoorProg
import Derived.WalkKit
import Derived.Lib.Hide
namespace Go.Proofs.YtbpldfmmlgkfnaaGreatDoor
open Go.RowKit
set_option linter.unusedVariables false

@[go_sem] theorem i64_and1 (n : Int) : bits .and .i64 n 1 = n % 2:=by
 have h1 : (BitVec.ofInt 64 1).toNat = 2 ^ 1 - 1:=by decide
 have key : (BitVec.ofInt 64 n &&& BitVec.ofInt 64 1).toNat = (n % ((2 ^ 64 : Nat) : Int)).toNat % 2 ^ 1:=by
  rw [BitVec.toNat_and,BitVec.toNat_ofInt,h1,Nat.and_two_pow_sub_one_eq_mod]
 show IntKind.i64.wrap ((BitVec.ofInt 64 n &&& BitVec.ofInt 64 1).toNat : Nat) = n % 2
 rw [key,IntKind.wrap_i64]
 omega

@[go_sem] theorem i64_and3 (n : Int) : bits .and .i64 n 3 = n % 4:=by
 have h1 : (BitVec.ofInt 64 3).toNat = 2 ^ 2 - 1:=by decide
 have key : (BitVec.ofInt 64 n &&& BitVec.ofInt 64 3).toNat = (n % ((2 ^ 64 : Nat) : Int)).toNat % 2 ^ 2:=by
  rw [BitVec.toNat_and,BitVec.toNat_ofInt,h1,Nat.and_two_pow_sub_one_eq_mod]
 show IntKind.i64.wrap ((BitVec.ofInt 64 n &&& BitVec.ofInt 64 3).toNat : Nat) = n % 4
 rw [key,IntKind.wrap_i64]
 omega

@[go_sem] theorem tmod2_ne (o : Int) : (o.tmod 2 != 0) = (o % 2 == 1):=by
 have h : o.tmod 2 ≠ 0 ↔ o % 2 = 1:=by
  rcases Int.emod_two_eq o with h | h
  ·have : o.tmod 2 = 0:=Int.tmod_eq_zero_of_dvd (Int.dvd_of_emod_eq_zero h)
   omega
  ·have : o.tmod 2 ≠ 0:=fun e => by have:=Int.dvd_of_tmod_eq_zero e;omega
   omega
 rw [Bool.eq_iff_iff];simpa using h

theorem tdiv2_even (x : Int) (h : x % 2 = 0) : x.tdiv 2 = x / 2:=by
 obtain ⟨k,rfl⟩:=Int.dvd_of_emod_eq_zero h
 rw [Int.mul_tdiv_cancel_left _ (by decide),Int.mul_ediv_cancel_left _ (by decide)]

theorem ret_int {k : IntKind} {a b : Int} (h : a = b) : Ending.returned (.int k a) = .returned (.int k b):=by rw [h]
theorem ret_bool {a b : Bool} (h : a = b) : Ending.returned (.bool a) = .returned (.bool b):=by rw [h]
theorem ret_int_bool {k : IntKind} {a b : Int} {x y : Bool} (h : a = b) (h' : x = y) : Ending.returned (.tuple #[.int k a,.bool x]) = .returned (.tuple #[.int k b,.bool y]):=by rw [h,h']
theorem ret_bool2 {a b x y : Bool} (h : a = b) (h' : x = y) : Ending.returned (.tuple #[.bool a,.bool x]) = .returned (.tuple #[.bool b,.bool y]):=by rw [h,h']

end Go.Proofs.YtbpldfmmlgkfnaaGreatDoor
