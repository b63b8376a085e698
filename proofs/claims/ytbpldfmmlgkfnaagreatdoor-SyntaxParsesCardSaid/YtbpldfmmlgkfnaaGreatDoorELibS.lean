/- Functions of the library, by their contracts (laid by the kit's contract.sh, put together). Conditions: as each says. -/
import Derived.Test.YtbpldfmmlgkfnaaGreatDoorProg
import Derived.Lib.Strings
import Derived.Lib.Slices
import Derived.Lib.Walk
import Derived.Lib.SlicesS
import Derived.Lib.Bytealg
namespace Go.Proofs.YtbpldfmmlgkfnaaGreatDoor
set_option linter.unusedVariables false

set_option maxHeartbeats 1000000 in
theorem lib_strings_HasPrefix (s p : ByteArray) (w : World) :
  Calls Tryz.prog 59 #[.string s,.string p] w fun e w' => e = .returned (.bool (Lib.hasPrefix s.data.toList p.data.toList)) ∧ w' = w:=by
 rw [← Lib.hasPrefix_of_take,← Lib.size_eq,← Lib.size_eq]
 go_enter Tryz.func59,Tryz.ntmps59
 go_wp2
 ·rename_i h
  go_ret
  refine ⟨?_,rfl⟩
  show Ending.returned (Value.bool ((s.extract 0 p.size).toList == p.toList)) = _
  rw [Lib.extract_toList,Lib.toList_data]
  simp [h]
 ·rename_i h
  go_ret
  refine ⟨?_,rfl⟩
  show Ending.returned (Value.bool false) = _
  simp [h]

set_option maxHeartbeats 1000000 in
theorem lib_slices_Index_string (b off n c : Nat) (zs : List ByteArray) (x : ByteArray) (w : World) (hz : n ≤ zs.length) (hbig : n ≤ 9223372036854775807) (hc : ∀ j,j < zs.length → w.cell? ⟨b,off + j,none⟩ = some (.string (zs.getD j ByteArray.empty))) :
  Calls Tryz.prog 72 #[.slice (some ⟨b,off,none⟩) n c,.string x] w fun e w' => e = .returned (.int .i64 (Lib.idxOfS (zs.take n) x)) ∧ w' = w:=by
 go_enter Tryz.func72,Tryz.ntmps72
 go_wp2
 go_loop [5,8] (fun _ i => ∃ k : Nat,k ≤ n ∧ i = .int .i64 k ∧ ∀ j,j < k → zs.getD j ByteArray.empty ≠ x) (fun _ i => match i with | .int _ m => n - m.toNat | _ => 0)
 case atStart => exact ⟨0,Nat.zero_le _,rfl,fun j hj => absurd hj (Nat.not_lt_zero _)⟩
 case round =>
  obtain ⟨k,hk,rfl,hne⟩:=hrel
  have hcell : k < n → w.cell? ⟨b,off + k,none⟩ = some (.string (zs.getD k ByteArray.empty)):=fun _ => hc k (by omega)
  go_wp2
  ·have hlt : k < n:=by assumption
   have heq : (x.toList == (zs[k]?.getD ByteArray.empty).toList) = true:=by assumption
   go_ret
   refine ⟨?_,rfl⟩
   rw [Lib.idxOfS_hit zs n k x hlt hz (by simp only [List.getD];exact ((Lib.bytes_beq_iff _ _).1 heq).symm) hne]
   rfl
  ·have hlt : k < n:=by assumption
   have hneq : (x.toList == (zs[k]?.getD ByteArray.empty).toList) = false:=by assumption
   refine ⟨⟨_,_,_,⟨k + 1,by omega,rfl,fun j hj => ?_⟩,rfl,rfl,?_⟩,by omega⟩
   ·by_cases e : j = k
    ·subst e
     intro he
     exact (Lib.bytes_beq_false_iff _ _).1 hneq (by simpa [List.getD] using he.symm)
    ·have:=hne j (by omega)
     simpa [List.getD] using this
   ·have e1 : ((k : Int) + 1 + 9223372036854775808) % 18446744073709551616 - 9223372036854775808 = ((k + 1 : Nat) : Int):=by omega
    rw [e1]
  ·have hge : ¬ k < n:=by assumption
   have : k = n:=by omega
   subst this
   go_ret
   refine ⟨?_,rfl⟩
   rw [Lib.idxOfS_miss zs k x hne]
   rfl

set_option maxHeartbeats 1000000 in
theorem lib_slices_Index_string_empty (a : Option Addr) (c : Nat) (x : ByteArray) (w : World) :
  Calls Tryz.prog 72 #[.slice a 0 c,.string x] w fun e w' => e = .returned (.int .i64 (Lib.idxOfS [] x)) ∧ w' = w:=by
 go_enter Tryz.func72,Tryz.ntmps72
 go_wp2
 go_loop [5,8] (fun _ i => i = .int .i64 0) (fun _ _ => 0)
 case atStart => rfl
 case round =>
  subst hrel
  go_wp2
  go_ret
  exact ⟨rfl,rfl⟩

theorem lib_slices_Contains_string (b off n c : Nat) (zs : List ByteArray) (x : ByteArray) (w : World) (hz : n ≤ zs.length) (hbig : n ≤ 9223372036854775807) (hc : ∀ j,j < zs.length → w.cell? ⟨b,off + j,none⟩ = some (.string (zs.getD j ByteArray.empty))) :
  Calls Tryz.prog 39 #[.slice (some ⟨b,off,none⟩) n c,.string x] w fun e w' => e = .returned (.bool (Lib.containsS (zs.take n) x)) ∧ w' = w:=by
 unfold Lib.containsS
 go_enter Tryz.func39,Tryz.ntmps39
 go_wp2_with (go_at_call 72;refine (lib_slices_Index_string b off n c zs x _ hz hbig hc).mono ?_;rintro e w' ⟨rfl,rfl⟩)
 go_ret
 exact ⟨rfl,rfl⟩

theorem lib_slices_Contains_string_empty (a : Option Addr) (c : Nat) (x : ByteArray) (w : World) :
  Calls Tryz.prog 39 #[.slice a 0 c,.string x] w fun e w' => e = .returned (.bool false) ∧ w' = w:=by
 go_enter Tryz.func39,Tryz.ntmps39
 go_wp2_with (go_at_call 72;refine (lib_slices_Index_string_empty a c x _).mono ?_;rintro e w' ⟨rfl,rfl⟩)
 go_ret
 exact ⟨rfl,rfl⟩

set_option maxHeartbeats 1000000 in
set_option maxRecDepth 100000 in
theorem lib_stringslite_IndexByte (s : ByteArray) (c : Int) (w : World) :
  Calls Tryz.prog 87 #[.string s,.int .u8 c] w fun e w' => e = .returned (.int .i64 (Lib.indexByte s.data.toList c.toNat.toUInt8)) ∧ w' = w:=by
 go_enter Tryz.func87,Tryz.ntmps87
 go_wp2
 rw [run_callFunc_extern Tryz.func105 (by kernel_rfl) (by kernel_rfl) (by kernel_rfl) (e:=Extern.BytealgIndexByte.indexByte) (by kernel_rfl),Lib.run_indexByteString]
 simp only [Result.andThen]
 rw [Oper.upon_value]
 go_wp2
 go_ret
 exact ⟨rfl,rfl⟩

set_option maxHeartbeats 1000000 in
theorem lib_strings_IndexByte (s : ByteArray) (c : Int) (w : World) :
  Calls Tryz.prog 60 #[.string s,.int .u8 c] w fun e w' => e = .returned (.int .i64 (Lib.indexByte s.data.toList c.toNat.toUInt8)) ∧ w' = w:=by
 go_enter Tryz.func60,Tryz.ntmps60
 go_wp2_with (go_at_call 87;refine (lib_stringslite_IndexByte _ _ _).mono ?_;rintro e w' ⟨rfl,rfl⟩)
 go_ret
 exact ⟨rfl,rfl⟩
end Go.Proofs.YtbpldfmmlgkfnaaGreatDoor
