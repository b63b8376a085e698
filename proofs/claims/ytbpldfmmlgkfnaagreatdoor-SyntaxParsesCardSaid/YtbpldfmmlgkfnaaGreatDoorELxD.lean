/- Letters, digits, and spans of them, as the program and the document ask for them. Letters, digits and words, signs, as the document asks for them; words as the program does. What a text begins with, as the program cuts it. A text cut into tokens, as the program does it. Conditions: as each theorem says. -/
import Derived.Test.YtbpldfmmlgkfnaaGreatDoorEMemZ
import Derived.Test.YtbpldfmmlgkfnaaGreatDoorELxSpec4
import Derived.Test.YtbpldfmmlgkfnaaGreatDoorELibS
import Derived.Test.YtbpldfmmlgkfnaaGreatDoorAtoi
import Derived.Deep.LoopGhost
namespace Go.Proofs.YtbpldfmmlgkfnaaGreatDoor
open Go.RowKit
set_option linter.unusedVariables false

theorem lt_cases (n : Nat) : (97 ≤ n ∧ n ≤ 122) ∨ 122 < n ∨ (65 ≤ n ∧ n ≤ 90) ∨ n = 95 ∨ n < 65 ∨ (90 < n ∧ n < 97 ∧ n ≠ 95):=by omega
theorem dg_cases (n : Nat) : (48 ≤ n ∧ n ≤ 57) ∨ 57 < n ∨ n < 48:=by omega
theorem ret_b {a b : Bool} (h : a = b) : Ending.returned (.bool a) = .returned (.bool b):=by rw [h]

theorem letter_any (b : UInt8) (w : World) : Calls Tryz.prog 54 #[.int .u8 (b.toNat : Int)] w fun e w' => e = .returned (.bool (isLt b)) ∧ w = w':=by
 unfold isLt
 generalize b.toNat = n
 rcases lt_cases n with h | h | h | h | h | h
 all_goals
  go_enter Tryz.func54,Tryz.ntmps54
  go_wp2
  go_ret
  exact ⟨ret_b (Bool.eq_iff_iff.2 (by simp <;> omega)),rfl⟩
theorem digit_any (b : UInt8) (w : World) : Calls Tryz.prog 56 #[.int .u8 (b.toNat : Int)] w fun e w' => e = .returned (.bool (isDg b)) ∧ w = w':=by
 unfold isDg
 generalize b.toNat = n
 rcases dg_cases n with h | h | h
 all_goals
  go_enter Tryz.func56,Tryz.ntmps56
  go_wp2
  go_ret
  exact ⟨ret_b (Bool.eq_iff_iff.2 (by simp <;> omega)),rfl⟩
@[go_sem] theorem idx_go (s : ByteArray) (j : Nat) (h : j < s.size) : s[j]'h = bt s j:=idx_bt s j h
theorem nl_any (b : UInt8) (w : World) : Calls Tryz.prog 53 #[.int .u8 (b.toNat : Int)] w fun e w' => e = .returned (.bool (isNl b)) ∧ w = w':=by
 unfold isNl
 generalize b.toNat = n
 by_cases h : n = 10
 all_goals
  go_enter Tryz.func53,Tryz.ntmps53
  go_wp2
  go_ret
  exact ⟨ret_b (Bool.eq_iff_iff.2 (by simp <;> omega)),rfl⟩
theorem ld_any (b : UInt8) (w : World) : Calls Tryz.prog 55 #[.int .u8 (b.toNat : Int)] w fun e w' => e = .returned (.bool (isLd b)) ∧ w = w':=by
 unfold isLd
 have HA:=Lib.hid (letter_any b w)
 have HB:=Lib.hid (digit_any b w)
 generalize isLt b = x at *
 generalize isDg b = y at *
 cases x <;> cases y
 all_goals
  go_enter Tryz.func55,Tryz.ntmps55
  go_wp2_with (first
   | (go_at_call 54;refine HA.out.mono ?_;rintro e w' ⟨rfl,rfl⟩)
   | (go_at_call 56;refine HB.out.mono ?_;rintro e w' ⟨rfl,rfl⟩))
  go_ret
  exact ⟨rfl,rfl⟩

set_option maxRecDepth 100000 in
theorem span_nl (s : ByteArray) (hs : s.size ≤ 9223372036854775807) (w : World) :
  Calls Tryz.prog 52 #[.string s,.func (.func 53) #[] #[]] w fun e w' => e = .returned (.int .i64 (spanF isNl s.data.toList : Nat)) ∧ w = w':=by
 go_enter Tryz.func52,Tryz.ntmps52
 go_wp2_with fail
 go_loop [5] (fun i => ∃ p : Nat,i = .int .i64 (p : Int) ∧ p ≤ s.size ∧ ∀ j,j < p → isNl (bt s j) = true) (fun i => s.size - (intOf i).toNat)
 case atStart => exact ⟨0,rfl,Nat.zero_le _,fun j h => absurd h (Nat.not_lt_zero _)⟩
 case round =>
  obtain ⟨p,rfl,hp,hall⟩:=hrel
  have HALL:=Lib.hid hall;clear hall
  by_cases hlt : p < s.size
  ·have hc:=nl_any (bt s p) w
   have HC:=Lib.hid hc;clear hc
   cases hfp : isNl (bt s p)
   ·rw [hfp] at HC
    have HSP:=Lib.hid (span_at hp HALL.out (fun _ => hfp))
    clear hfp
    go_wp2_with (go_at_call 53;refine HC.out.mono ?_;rintro e w' ⟨rfl,rfl⟩)
    go_ret
    exact ⟨by rw [HSP.out];rfl,rfl⟩
   ·rw [hfp] at HC
    have HN : Hid (∀ j,j < p + 1 → isNl (bt s j) = true):=fun j hj => by
     rcases Nat.lt_or_ge j p with h | h
     ·exact HALL.out j h
     ·obtain rfl : j = p:=by omega
      exact hfp
    clear hfp
    go_wp2_with (go_at_call 53;refine HC.out.mono ?_;rintro e w' ⟨rfl,rfl⟩)
    go_round
    case rel => exact ⟨p + 1,by go_num,by omega,HN.out⟩
    case measure => simp [intOf];omega
  ·obtain rfl : p = s.size:=by omega
   have HSP:=Lib.hid (span_at hp HALL.out (fun h => absurd h (Nat.lt_irrefl _)))
   go_wp2_with fail
   go_ret
   exact ⟨by rw [HSP.out];rfl,rfl⟩
set_option maxRecDepth 100000 in
theorem span_ld (s : ByteArray) (hs : s.size ≤ 9223372036854775807) (w : World) :
  Calls Tryz.prog 52 #[.string s,.func (.func 55) #[] #[]] w fun e w' => e = .returned (.int .i64 (spanF isLd s.data.toList : Nat)) ∧ w = w':=by
 go_enter Tryz.func52,Tryz.ntmps52
 go_wp2_with fail
 go_loop [5] (fun i => ∃ p : Nat,i = .int .i64 (p : Int) ∧ p ≤ s.size ∧ ∀ j,j < p → isLd (bt s j) = true) (fun i => s.size - (intOf i).toNat)
 case atStart => exact ⟨0,rfl,Nat.zero_le _,fun j h => absurd h (Nat.not_lt_zero _)⟩
 case round =>
  obtain ⟨p,rfl,hp,hall⟩:=hrel
  have HALL:=Lib.hid hall;clear hall
  by_cases hlt : p < s.size
  ·have hc:=ld_any (bt s p) w
   have HC:=Lib.hid hc;clear hc
   cases hfp : isLd (bt s p)
   ·rw [hfp] at HC
    have HSP:=Lib.hid (span_at hp HALL.out (fun _ => hfp))
    clear hfp
    go_wp2_with (go_at_call 55;refine HC.out.mono ?_;rintro e w' ⟨rfl,rfl⟩)
    go_ret
    exact ⟨by rw [HSP.out];rfl,rfl⟩
   ·rw [hfp] at HC
    have HN : Hid (∀ j,j < p + 1 → isLd (bt s j) = true):=fun j hj => by
     rcases Nat.lt_or_ge j p with h | h
     ·exact HALL.out j h
     ·obtain rfl : j = p:=by omega
      exact hfp
    clear hfp
    go_wp2_with (go_at_call 55;refine HC.out.mono ?_;rintro e w' ⟨rfl,rfl⟩)
    go_round
    case rel => exact ⟨p + 1,by go_num,by omega,HN.out⟩
    case measure => simp [intOf];omega
  ·obtain rfl : p = s.size:=by omega
   have HSP:=Lib.hid (span_at hp HALL.out (fun h => absurd h (Nat.lt_irrefl _)))
   go_wp2_with fail
   go_ret
   exact ⟨by rw [HSP.out];rfl,rfl⟩
set_option maxRecDepth 100000 in
theorem span_dg (s : ByteArray) (hs : s.size ≤ 9223372036854775807) (w : World) :
  Calls Tryz.prog 52 #[.string s,.func (.func 56) #[] #[]] w fun e w' => e = .returned (.int .i64 (spanF isDg s.data.toList : Nat)) ∧ w = w':=by
 go_enter Tryz.func52,Tryz.ntmps52
 go_wp2_with fail
 go_loop [5] (fun i => ∃ p : Nat,i = .int .i64 (p : Int) ∧ p ≤ s.size ∧ ∀ j,j < p → isDg (bt s j) = true) (fun i => s.size - (intOf i).toNat)
 case atStart => exact ⟨0,rfl,Nat.zero_le _,fun j h => absurd h (Nat.not_lt_zero _)⟩
 case round =>
  obtain ⟨p,rfl,hp,hall⟩:=hrel
  have HALL:=Lib.hid hall;clear hall
  by_cases hlt : p < s.size
  ·have hc:=digit_any (bt s p) w
   have HC:=Lib.hid hc;clear hc
   cases hfp : isDg (bt s p)
   ·rw [hfp] at HC
    have HSP:=Lib.hid (span_at hp HALL.out (fun _ => hfp))
    clear hfp
    go_wp2_with (go_at_call 56;refine HC.out.mono ?_;rintro e w' ⟨rfl,rfl⟩)
    go_ret
    exact ⟨by rw [HSP.out];rfl,rfl⟩
   ·rw [hfp] at HC
    have HN : Hid (∀ j,j < p + 1 → isDg (bt s j) = true):=fun j hj => by
     rcases Nat.lt_or_ge j p with h | h
     ·exact HALL.out j h
     ·obtain rfl : j = p:=by omega
      exact hfp
    clear hfp
    go_wp2_with (go_at_call 56;refine HC.out.mono ?_;rintro e w' ⟨rfl,rfl⟩)
    go_round
    case rel => exact ⟨p + 1,by go_num,by omega,HN.out⟩
    case measure => simp [intOf];omega
  ·obtain rfl : p = s.size:=by omega
   have HSP:=Lib.hid (span_at hp HALL.out (fun h => absurd h (Nat.lt_irrefl _)))
   go_wp2_with fail
   go_ret
   exact ⟨by rw [HSP.out];rfl,rfl⟩
end Go.Proofs.YtbpldfmmlgkfnaaGreatDoor

namespace Go.Proofs.YtbpldfmmlgkfnaaGreatDoor
open Go.RowKit
set_option linter.unusedVariables false

theorem rletter_any (b : UInt8) (w : World) : Calls Tryz.prog 31 #[.int .u8 (b.toNat : Int)] w fun e w' => e = .returned (.bool (isLt b)) ∧ w = w':=by
 unfold isLt
 generalize b.toNat = n
 rcases lt_cases n with h | h | h | h | h | h
 all_goals
  go_enter Tryz.func31,Tryz.ntmps31
  go_wp2
  go_ret
  exact ⟨ret_b (Bool.eq_iff_iff.2 (by simp <;> omega)),rfl⟩
theorem rdigit_any (b : UInt8) (w : World) : Calls Tryz.prog 32 #[.int .u8 (b.toNat : Int)] w fun e w' => e = .returned (.bool (isDg b)) ∧ w = w':=by
 unfold isDg
 generalize b.toNat = n
 rcases dg_cases n with h | h | h
 all_goals
  go_enter Tryz.func32,Tryz.ntmps32
  go_wp2
  go_ret
  exact ⟨ret_b (Bool.eq_iff_iff.2 (by simp <;> omega)),rfl⟩

theorem words_len : wordsBA.length = 18:=rfl
theorem words_cell (w : World) (j : Nat) (hj : j < wordsBA.length) : (w.alloc (.cells #[.string ⟨#[99,108,97,115,115]⟩,.string ⟨#[116,111]⟩,.string ⟨#[115,108,111,116]⟩,.string ⟨#[109,97,105,110]⟩,.string ⟨#[118,97,114]⟩,.string ⟨#[105,102]⟩,.string ⟨#[101,108,115,101]⟩,.string ⟨#[119,104,105,108,101]⟩,.string ⟨#[114,101,116,117,114,110]⟩,.string ⟨#[112,114,105,110,116]⟩,.string ⟨#[102,111,114,107]⟩,.string ⟨#[119,97,105,116]⟩,.string ⟨#[115,105,103,110,97,108]⟩,.string ⟨#[115,119,97,112]⟩,.string ⟨#[110,101,119]⟩,.string ⟨#[103,97,116,101]⟩,.string ⟨#[110,105,108]⟩,.string ⟨#[115,101,108,102]⟩] 9)).cell? ⟨w.heap.size,0 + j,none⟩ = some (.string (wordsBA.getD j ByteArray.empty)):=by
 rw [Nat.zero_add,cell_new]
 have : (#[.string ⟨#[99,108,97,115,115]⟩,.string ⟨#[116,111]⟩,.string ⟨#[115,108,111,116]⟩,.string ⟨#[109,97,105,110]⟩,.string ⟨#[118,97,114]⟩,.string ⟨#[105,102]⟩,.string ⟨#[101,108,115,101]⟩,.string ⟨#[119,104,105,108,101]⟩,.string ⟨#[114,101,116,117,114,110]⟩,.string ⟨#[112,114,105,110,116]⟩,.string ⟨#[102,111,114,107]⟩,.string ⟨#[119,97,105,116]⟩,.string ⟨#[115,105,103,110,97,108]⟩,.string ⟨#[115,119,97,112]⟩,.string ⟨#[110,101,119]⟩,.string ⟨#[103,97,116,101]⟩,.string ⟨#[110,105,108]⟩,.string ⟨#[115,101,108,102]⟩] : Array Value) = (wordsBA.map Value.string).toArray:=rfl
 rw [this,List.getElem?_toArray,List.getElem?_map,List.getElem?_eq_getElem hj,List.getD_eq_getElem?_getD,List.getElem?_eq_getElem hj]
 rfl
theorem word_any (x : ByteArray) (w : World) : Calls Tryz.prog 57 #[.string x] w fun e w' => e = .returned (.bool (wordB x)) ∧ Below w.heap.size w w':=by
 have HC:=Lib.hid (lib_slices_Contains_string w.heap.size 0 18 18 wordsBA x _ (by rw [words_len];omega) (by omega) (words_cell w))
 have hb : Below w.heap.size w (w.alloc (.cells #[.string ⟨#[99,108,97,115,115]⟩,.string ⟨#[116,111]⟩,.string ⟨#[115,108,111,116]⟩,.string ⟨#[109,97,105,110]⟩,.string ⟨#[118,97,114]⟩,.string ⟨#[105,102]⟩,.string ⟨#[101,108,115,101]⟩,.string ⟨#[119,104,105,108,101]⟩,.string ⟨#[114,101,116,117,114,110]⟩,.string ⟨#[112,114,105,110,116]⟩,.string ⟨#[102,111,114,107]⟩,.string ⟨#[119,97,105,116]⟩,.string ⟨#[115,105,103,110,97,108]⟩,.string ⟨#[115,119,97,112]⟩,.string ⟨#[110,101,119]⟩,.string ⟨#[103,97,116,101]⟩,.string ⟨#[110,105,108]⟩,.string ⟨#[115,101,108,102]⟩] 9)):=(Below.refl _ _).alloc (Nat.le_refl _) _
 have HB:=Lib.hid hb
 clear hb
 go_enter Tryz.func57,Tryz.ntmps57
 go_wp2_with (first
  | (go_at_call 39;refine HC.out.mono ?_;rintro e w' ⟨rfl,rfl⟩)
  | go_in)
 go_ret
 exact ⟨rfl,HB.out⟩
theorem word_yes {x : ByteArray} {k : Nat} (hk : k < 18) (h : wordsBA.getD k ByteArray.empty = x) : wordB x = true:=by
 unfold wordB
 rw [Lib.containsS_iff]
 have hl : k < wordsBA.length:=hk
 rw [List.getD_eq_getElem?_getD,List.getElem?_eq_getElem hl] at h
 rw [← h];exact List.getElem_mem hl
theorem word_no {x : ByteArray} (h : ∀ j,j < 18 → wordsBA.getD j ByteArray.empty ≠ x) : wordB x = false:=by
 cases hw : wordB x with
 | false => rfl
 | true =>
  unfold wordB at hw
  rw [Lib.containsS_iff] at hw
  obtain ⟨j,hj,e⟩:=List.getElem_of_mem hw
  exact absurd (by rw [List.getD_eq_getElem?_getD,List.getElem?_eq_getElem hj];exact e) (h j hj)
set_option maxRecDepth 100000 in
theorem rword_any (x : ByteArray) (w : World) : Calls Tryz.prog 33 #[.string x] w fun e w' => e = .returned (.bool (wordB x)) ∧ Below w.heap.size w w':=by
 have HC:=Lib.hid (words_cell w)
 have hb : Below w.heap.size w (w.alloc (.cells #[.string ⟨#[99,108,97,115,115]⟩,.string ⟨#[116,111]⟩,.string ⟨#[115,108,111,116]⟩,.string ⟨#[109,97,105,110]⟩,.string ⟨#[118,97,114]⟩,.string ⟨#[105,102]⟩,.string ⟨#[101,108,115,101]⟩,.string ⟨#[119,104,105,108,101]⟩,.string ⟨#[114,101,116,117,114,110]⟩,.string ⟨#[112,114,105,110,116]⟩,.string ⟨#[102,111,114,107]⟩,.string ⟨#[119,97,105,116]⟩,.string ⟨#[115,105,103,110,97,108]⟩,.string ⟨#[115,119,97,112]⟩,.string ⟨#[110,101,119]⟩,.string ⟨#[103,97,116,101]⟩,.string ⟨#[110,105,108]⟩,.string ⟨#[115,101,108,102]⟩] 9)):=(Below.refl _ _).alloc (Nat.le_refl _) _
 have HB:=Lib.hid hb
 clear hb
 go_enter Tryz.func33,Tryz.ntmps33
 go_wp2_with fail
 generalize (w.alloc (.cells #[.string ⟨#[99,108,97,115,115]⟩,.string ⟨#[116,111]⟩,.string ⟨#[115,108,111,116]⟩,.string ⟨#[109,97,105,110]⟩,.string ⟨#[118,97,114]⟩,.string ⟨#[105,102]⟩,.string ⟨#[101,108,115,101]⟩,.string ⟨#[119,104,105,108,101]⟩,.string ⟨#[114,101,116,117,114,110]⟩,.string ⟨#[112,114,105,110,116]⟩,.string ⟨#[102,111,114,107]⟩,.string ⟨#[119,97,105,116]⟩,.string ⟨#[115,105,103,110,97,108]⟩,.string ⟨#[115,119,97,112]⟩,.string ⟨#[110,101,119]⟩,.string ⟨#[103,97,116,101]⟩,.string ⟨#[110,105,108]⟩,.string ⟨#[115,101,108,102]⟩] 9)) = w1 at *
 go_loop [4] (fun i => ∃ k : Nat,i = .int .i64 (k : Int) ∧ k ≤ 18 ∧ ∀ j,j < k → wordsBA.getD j ByteArray.empty ≠ x) (fun i => 18 - (intOf i).toNat)
 case atStart => exact ⟨0,rfl,Nat.zero_le _,fun j h => absurd h (Nat.not_lt_zero _)⟩
 case round =>
  obtain ⟨k,rfl,hk,hall⟩:=hrel
  have HALL:=Lib.hid hall;clear hall
  by_cases hlt : k < 18
  ·have hc:=HC.out k hlt
   rw [Nat.zero_add] at hc
   have HEQ:=Lib.hid (Lib.bytes_beq_iff (wordsBA.getD k ByteArray.empty) x)
   have HNE:=Lib.hid (Lib.bytes_beq_false_iff (wordsBA.getD k ByteArray.empty) x)
   have HYES:=Lib.hid (fun h => word_yes (x:=x) hlt h)
   have HN : Hid (wordsBA.getD k ByteArray.empty ≠ x → ∀ j,j < k + 1 → wordsBA.getD j ByteArray.empty ≠ x):=fun h j hj => by
    rcases Nat.lt_or_ge j k with h2 | h2
    ·exact HALL.out j h2
    ·obtain rfl : j = k:=by omega
     exact h
   generalize wordsBA.getD k ByteArray.empty = y at *
   cases he : (y.toList == x.toList)
   ·have HS:=Lib.hid (HN.out (HNE.out.1 he))
    go_wp2_with fail
    go_round
    case rel => exact ⟨k + 1,by go_num,by omega,HS.out⟩
    case measure => simp [intOf];omega
   ·have HW:=Lib.hid (HYES.out (HEQ.out.1 he))
    go_wp2_with fail
    go_ret
    exact ⟨by rw [HW.out];rfl,HB.out⟩
  ·obtain rfl : k = 18:=by omega
   have HW:=Lib.hid (word_no HALL.out)
   go_wp2_with fail
   go_ret
   exact ⟨by rw [HW.out];rfl,HB.out⟩

/-- The signs, as a text. -/
def signsT : ByteArray:=⟨#[43,45,42,60,61,33,46,44,59,58,40,41,123,125]⟩
theorem sign_yes {b : UInt8} {k : Nat} (hk : k < 14) (h : bt signsT k = b) : signsB.contains b = true:=by
 have : ∀ k,k < 14 → signsB.contains (bt signsT k) = true:=by decide
 rw [← h];exact this k hk
theorem sign_no {b : UInt8} (h : ∀ j,j < 14 → bt signsT j ≠ b) : signsB.contains b = false:=by
 cases hs : signsB.contains b with
 | false => rfl
 | true =>
  have hm : b ∈ signsB:=by simpa using hs
  obtain ⟨j,hj,e⟩:=List.getElem_of_mem hm
  refine absurd ?_ (h j hj)
  rw [← e]
  show signsB.getD j 0 = signsB[j]
  rw [List.getD_eq_getElem?_getD,List.getElem?_eq_getElem hj];rfl
theorem u8_eq {a b : UInt8} : (((a.toNat : Int) == (b.toNat : Int)) = true) ↔ a = b:=by
 rw [beq_iff_eq]
 constructor
 ·intro h;exact UInt8.toNat_inj.1 (by omega)
 ·rintro rfl;rfl
theorem drewN2 (w : World) (m n : Nat) : (w.drewN m).drewN n = w.drewN (m + n):=by
 unfold World.drewN
 simp only [Nat.add_assoc]
theorem u8_ne {a b : UInt8} (h : ((a.toNat : Int) == (b.toNat : Int)) = false) : a ≠ b:=by
 intro e
 rw [u8_eq.2 e] at h;cases h
theorem sign_two {x : ByteArray} (h : 1 < x.size) (h0 : bt x 0 = 61) (h1 : bt x 1 = 61) : signN (bt x 0) (if 1 < x.size then some (bt x 1) else none) = 2:=by
 unfold signN
 rw [if_pos h,if_pos ⟨h0,by rw [h1]⟩]
theorem sign_one {x : ByteArray} (h : ¬ (1 < x.size ∧ bt x 0 = 61 ∧ bt x 1 = 61)) : signN (bt x 0) (if 1 < x.size then some (bt x 1) else none) = if signsB.contains (bt x 0) = true then 1 else 0:=by
 unfold signN
 rw [if_neg]
 rintro ⟨h0,h1⟩
 split at h1
 ·rename_i h2
  exact h ⟨h2,h0,Option.some.inj h1⟩
 ·cases h1
theorem is61 (b : UInt8) : ((b.toNat : Int) == 61) = true ↔ b = 61:=u8_eq (a:=b) (b:=61)
set_option maxRecDepth 100000 in
theorem sign_any (x : ByteArray) (hx : 0 < x.size) (hs : x.size ≤ 9223372036854775807) (w : World) : Calls Tryz.prog 34 #[.string x] w fun e w' =>
  e = .returned (.int .i64 (signN (bt x 0) (if 1 < x.size then some (bt x 1) else none) : Nat)) ∧ ∃ m,w' = w.drewN m:=by
 by_cases h2 : 1 < x.size ∧ bt x 0 = 61 ∧ bt x 1 = 61
 ·obtain ⟨h3,h4,h5⟩:=h2
  have HV:=Lib.hid (sign_two h3 h4 h5)
  have e0:=(is61 _).2 h4
  have e1:=(is61 _).2 h5
  clear h4 h5
  generalize hv : signN (bt x 0) (if 1 < x.size then some (bt x 1) else none) = v at *
  have HVV:=HV.out
  subst HVV
  clear hv
  go_enter Tryz.func34,Tryz.ntmps34
  go_wp2
  go_ret
  exact ⟨rfl,0,rfl⟩
 ·have HV:=Lib.hid (sign_one h2)
  generalize signN (bt x 0) (if 1 < x.size then some (bt x 1) else none) = v at *
  have hc : (¬ 1 < x.size) ∨ (1 < x.size ∧ ((((bt x 0).toNat : Nat) : Int) == 61) = false) ∨ (1 < x.size ∧ ((((bt x 0).toNat : Nat) : Int) == 61) = true ∧ ((((bt x 1).toNat : Nat) : Int) == 61) = false):=by
   by_cases h3 : 1 < x.size
   ·right
    cases h4 : ((((bt x 0).toNat : Nat) : Int) == 61)
    ·exact .inl ⟨h3,rfl⟩
    ·right
     refine ⟨h3,rfl,?_⟩
     cases h5 : ((((bt x 1).toNat : Nat) : Int) == 61)
     ·rfl
     ·exact absurd ⟨h3,(is61 _).1 h4,(is61 _).1 h5⟩ h2
   ·exact .inl h3
  clear h2
  have HZ : Hid (∀ k,k < 14 → k < signsT.size):=fun k h => h
  rcases hc with h3 | ⟨h3,h4⟩ | ⟨h3,h4,h5⟩
  all_goals
   go_enter Tryz.func34,Tryz.ntmps34
   go_wp2_with fail
   go_loopw [4] (fun i wr => ∃ (k m : Nat),i = .int .i64 (k : Int) ∧ k ≤ 14 ∧ wr = w.drewN m ∧ ∀ j,j < k → bt signsT j ≠ bt x 0) (fun i _ => 14 - (intOf i).toNat)
   case atStart => exact ⟨0,0,rfl,Nat.zero_le _,rfl,fun j h => absurd h (Nat.not_lt_zero _)⟩
   case round =>
    obtain ⟨k,m,rfl,hk,rfl,hall⟩:=hrel
    have HALL:=Lib.hid hall;clear hall
    by_cases hlt : k < 14
    ·cases he : ((((bt x 0).toNat : Nat) : Int) == (((bt signsT k).toNat : Nat) : Int))
     ·have HN : Hid (∀ j,j < k + 1 → bt signsT j ≠ bt x 0):=fun j hj => by
       rcases Nat.lt_or_ge j k with h2 | h2
       ·exact HALL.out j h2
       ·obtain rfl : j = k:=by omega
        exact fun e => u8_ne he e.symm
      unfold signsT at he
      go_wp2_with fail
      go_quiet (fail)
      go_wp2
      go_roundw
      case rel => exact ⟨k + 1,_,by go_num,by omega,rfl,HN.out⟩
      case measure => simp [intOf];omega
     ·have HW:=Lib.hid (sign_yes hlt (u8_eq.1 he).symm)
      unfold signsT at he
      go_wp2_with fail
      go_quiet (fail)
      go_wp2
      go_ret
      exact ⟨by rw [HV.out,HW.out];rfl,_,drewN2 _ _ _⟩
    ·obtain rfl : k = 14:=by omega
     have HW:=Lib.hid (sign_no HALL.out)
     go_wp2_with fail
     go_ret
     exact ⟨by rw [HV.out,HW.out];rfl,_,rfl⟩
end Go.Proofs.YtbpldfmmlgkfnaaGreatDoor

namespace Go.Proofs.YtbpldfmmlgkfnaaGreatDoor
open Go.RowKit
set_option linter.unusedVariables false

/-- strconv.ErrRange holds an error. -/
def LV (w : World) : Prop:=∃ te pe,w.cell? ⟨1,0,none⟩ = some (.iface te pe)
def AtoiTold (t : ByteArray) (w : World) (e : Ending) (w' : World) : Prop:=Below w.heap.size w w' ∧ ∃ v E,e = .returned (.tuple #[.int .i64 v,E]) ∧
 ((E = .nilIface ∧ v = (numF 0 t.data.toList : Nat)) ∨ ((∃ N,E = .iface 144 (.pointer (some ⟨N,0,none⟩))) ∧ 1073741823 < numF 0 t.data.toList))
theorem atoi_any (t : ByteArray) (h0 : 0 < t.size) (hd : ∀ j,j < t.size → isDg (bt t j) = true) (hl : t.size ≤ 4000) (w : World) (hv : LV w) : Calls Tryz.prog 58 #[.string t] w (AtoiTold t w):=by
 obtain ⟨b,l,e⟩:=cut_cons h0
 have hall : ∀ c ∈ b :: l,isDg c = true:=fun c hc => by
  rw [← e] at hc
  obtain ⟨j,hj,rfl⟩:=List.getElem_of_mem hc
  rw [bt_list];exact hd j (by rw [size_len] at hj;exact hj)
 have ha:=atoi_digits hall
 rw [← e] at ha
 by_cases hn : numF 0 t.data.toList < 9223372036854775808
 ·rw [if_pos hn] at ha
  refine (Tryz.strconv_Atoi_ok t (by omega) _ ha w).mono ?_
  rintro e' w' ⟨rfl,hw⟩
  refine ⟨?_,_,_,rfl,.inl ⟨rfl,rfl⟩⟩
  rcases hw with rfl | ⟨s,rfl⟩
  ·exact Below.refl _ _
  ·exact Lib.bytesWorld_below _ _ _
 ·rw [if_neg hn] at ha
  obtain ⟨te,pe,hc⟩:=hv
  refine (Tryz.strconv_Atoi_range t (by omega) ha _ w hc (.inr ⟨te,pe,rfl⟩)).mono ?_
  rintro e' w' ⟨N,rfl,-,-,hb⟩
  exact ⟨hb,_,_,rfl,.inr ⟨⟨N,rfl⟩,by omega⟩⟩
def CutTold (x : ByteArray) (w : World) (e : Ending) (w' : World) : Prop:=e = .returned (.tuple #[.int .i64 (cutF x).1,.int .i64 ((cutF x).2.1 : Nat),.int .i64 (cutF x).2.2]) ∧ Below w.heap.size w w'
theorem is_u8 (b : UInt8) (k : Nat) (hk : k < 256) : (((b.toNat : Nat) : Int) == (k : Int)) = decide (b = UInt8.ofNat k):=by
 rw [Bool.eq_iff_iff]
 simp only [beq_iff_eq,decide_eq_true_eq]
 constructor
 ·intro h
  apply UInt8.toNat_inj.1
  rw [UInt8.toNat_ofNat']
  omega
 ·rintro rfl
  rw [UInt8.toNat_ofNat']
  omega
theorem hp_iff {x : ByteArray} (h0 : 0 < x.size) : Lib.hasPrefix x.data.toList [61,61] = true ↔ (1 < x.size ∧ bt x 0 = 61 ∧ bt x 1 = 61):=by
 have hz:=size_len x
 unfold bt Lib.hasPrefix
 cases e : x.data.toList with
 | nil => exfalso;rw [e,List.length_nil] at hz;omega
 | cons b r =>
  cases r with
  | nil =>
   rw [e] at hz
   have h1 : x.size = 1:=hz.symm
   constructor
   ·intro h
    have h2 : ((61 : UInt8) == b && false) = true:=h
    rw [Bool.and_false] at h2;cases h2
   ·rintro ⟨h,-⟩;omega
  | cons c r =>
   rw [e] at hz
   have h2 : 1 < x.size:=by rw [← hz];simp
   have h3 : List.isPrefixOf [61,61] (b :: c :: r) = ((61 : UInt8) == b && ((61 : UInt8) == c && true)):=by cases r <;> rfl
   rw [h3]
   show _ ↔ (1 < x.size ∧ b = 61 ∧ c = 61)
   rw [Bool.and_true,Bool.and_eq_true,beq_iff_eq,beq_iff_eq]
   exact ⟨fun ⟨h4,h5⟩ => ⟨h2,h4.symm,h5.symm⟩,fun ⟨_,h4,h5⟩ => ⟨h4.symm,h5.symm⟩⟩
theorem ib_iff (b : UInt8) : ∀ l : List UInt8,(0 ≤ Lib.indexByte l b ∧ l.contains b = true) ∨ (Lib.indexByte l b = -1 ∧ l.contains b = false)
 | [] => .inr ⟨rfl,rfl⟩
 | a :: l => by
  have ih:=ib_iff b l
  unfold Lib.indexByte
  by_cases h : (a == b) = true
  ·rw [if_pos h]
   left
   have : a = b:=by simpa using h
   subst this
   exact ⟨by omega,by simp⟩
  ·rw [if_neg h]
   have hne : ¬ a = b:=by simpa using h
   have hc : (a :: l).contains b = l.contains b:=by
    rw [Bool.eq_iff_iff];simp only [List.contains_iff_mem,List.mem_cons]
    exact ⟨fun h => h.resolve_left (fun e => hne e.symm),.inr⟩
   rw [hc]
   rcases ih with ⟨h1,h2⟩ | ⟨h1,h2⟩
   ·left
    rw [if_neg (by simp;omega)]
    exact ⟨by omega,h2⟩
   ·right
    rw [h1,if_pos (by decide)]
    exact ⟨rfl,h2⟩
theorem not_u8 {b : UInt8} {k : Nat} (hk : k < 256) (h : ¬ b = UInt8.ofNat k) : (((b.toNat : Nat) : Int) == (k : Int)) = false:=by rw [is_u8 b k hk];exact decide_eq_false h
set_option maxRecDepth 100000 in
set_option maxHeartbeats 1000000 in
theorem cut_any (x : ByteArray) (h0 : 0 < x.size) (hl : x.size ≤ 4000) (w : World) (hv : LV w) : Calls Tryz.prog 28 #[.string x] w (CutTold x w):=by
 have hce:=cut_eq h0
 have HV:=Lib.hid hv
 clear hv
 by_cases c1 : bt x 0 = 32 ∨ bt x 0 = 9 ∨ bt x 0 = 10
 ·rw [if_pos c1] at hce
  have hn : (bt x 0).toNat = 32 ∨ (bt x 0).toNat = 9 ∨ (bt x 0).toNat = 10:=by
   rcases c1 with h | h | h <;> rw [h]
   ·exact .inl rfl
   ·exact .inr (.inl rfl)
   ·exact .inr (.inr rfl)
  have HCE:=Lib.hid hce
  clear hce c1
  unfold CutTold
  rcases hn with hn | hn | hn
  all_goals
   go_enter Tryz.func28,Tryz.ntmps28
   go_wp2
   go_ret3
   exact ⟨by rw [HCE.out];rfl,Below.refl _ _⟩
 rw [if_neg c1] at hce
 have f32 : ((((bt x 0).toNat : Nat) : Int) == 32) = false:=not_u8 (k:=32) (by omega) (fun h => c1 (.inl h))
 have f9 : ((((bt x 0).toNat : Nat) : Int) == 9) = false:=not_u8 (k:=9) (by omega) (fun h => c1 (.inr (.inl h)))
 have f10 : ((((bt x 0).toNat : Nat) : Int) == 10) = false:=not_u8 (k:=10) (by omega) (fun h => c1 (.inr (.inr h)))
 clear c1
 by_cases c2 : bt x 0 = 35
 ·rw [if_pos c2] at hce
  have hn : (bt x 0).toNat = 35:=by rw [c2];rfl
  have HCE:=Lib.hid hce
  have HSP:=Lib.hid (span_nl x (by omega) w)
  clear hce c2 f32 f9 f10
  unfold CutTold
  go_enter Tryz.func28,Tryz.ntmps28
  go_wp2_with (go_at_call 52;refine HSP.out.mono ?_;rintro e w' ⟨rfl,rfl⟩)
  go_ret3
  exact ⟨by rw [HCE.out];rfl,Below.refl _ _⟩
 rw [if_neg c2] at hce
 have f35 : ((((bt x 0).toNat : Nat) : Int) == 35) = false:=not_u8 (k:=35) (by omega) c2
 clear c2
 have HLT:=Lib.hid (letter_any (bt x 0) w)
 have HDG:=Lib.hid (digit_any (bt x 0) w)
 cases c3 : isLt (bt x 0)
 case true =>
  rw [c3] at HLT hce
  rw [if_pos rfl] at hce
  have HCE:=Lib.hid hce
  have hle:=spanF_le isLd x.data.toList
  rw [size_len] at hle
  have HSP:=Lib.hid (span_ld x (by omega) w)
  have HWD:=Lib.hid (word_any (x.extract 0 (spanF isLd x.data.toList)) w)
  clear hce c3 HDG
  unfold CutTold
  generalize spanF isLd x.data.toList = n at *
  generalize wordB (x.extract 0 n) = b at *
  cases b
  all_goals
   go_enter Tryz.func28,Tryz.ntmps28
   go_wp2_with (first
    | (go_at_call 54;refine HLT.out.mono ?_;rintro e w' ⟨rfl,rfl⟩)
    | (go_at_call 52;refine HSP.out.mono ?_;rintro e w' ⟨rfl,rfl⟩)
    | (go_at_call 57;refine HWD.out.mono ?_;rintro e w' ⟨rfl,hb⟩;have HB:=Lib.hid hb;clear hb))
   go_ret3
   exact ⟨by rw [HCE.out];rfl,HB.out⟩
 case false =>
  rw [c3] at HLT hce
  rw [if_neg (by decide)] at hce
  cases c4 : isDg (bt x 0)
  case true =>
   rw [c4] at HDG hce
   rw [if_pos rfl] at hce
   have hle:=spanF_le isDg x.data.toList
   rw [size_len] at hle
   have hpos : 0 < spanF isDg x.data.toList:=by
    obtain ⟨b,r,e⟩:=cut_cons h0
    have hb : bt x 0 = b:=by unfold bt;rw [e];rfl
    rw [e];exact span_pos (by rw [← hb];exact c4)
   have hdg : ∀ j,j < spanF isDg x.data.toList → isDg (bt x j) = true:=fun j hj => by
    rw [← bt_list x (by rw [size_len];omega)];exact spanF_all _ hj
   have HSP:=Lib.hid (span_dg x (by omega) w)
   have hex : (x.extract 0 (spanF isDg x.data.toList)).size = spanF isDg x.data.toList:=by rw [ext_size x hle];omega
   have HAT:=Lib.hid (atoi_any (x.extract 0 (spanF isDg x.data.toList)) (by rw [hex];exact hpos) (fun j hj => by
    rw [hex] at hj
    have:=ext_bt (s:=x) (i:=0) (k:=spanF isDg x.data.toList) (j:=j) (by omega) hle
    rw [this,Nat.zero_add];exact hdg j hj) (by rw [hex];omega) w HV.out)
   have hnl : (x.extract 0 (spanF isDg x.data.toList)).data.toList = x.data.toList.take (spanF isDg x.data.toList):=by rw [ext_list,List.drop_zero,Nat.sub_zero]
   unfold AtoiTold at HAT
   rw [hnl] at HAT
   have HCE:=Lib.hid hce
   have HB48:=Lib.hid (is_u8 (bt x 0) 48 (by omega))
   clear hce c3 c4 hdg hex hnl
   unfold CutTold
   generalize numF 0 (x.data.toList.take (spanF isDg x.data.toList)) = v0 at *
   generalize spanF isDg x.data.toList = n at *
   go_enter Tryz.func28,Tryz.ntmps28
   go_wp2_with (first
    | (go_at_call 54;refine HLT.out.mono ?_;rintro e w' ⟨rfl,rfl⟩)
    | (go_at_call 56;refine HDG.out.mono ?_;rintro e w' ⟨rfl,rfl⟩)
    | (go_at_call 52;refine HSP.out.mono ?_;rintro e w' ⟨rfl,rfl⟩))
   refine HAT.out.mono ?_
   rintro e w2 ⟨hb,v,E,rfl,hE⟩
   have HB:=Lib.hid hb
   clear hb HAT
   by_cases hA : 1073741823 < v0
   ·have HC : Hid (cutF x = (0,0,2)):=by show _ = _;rw [HCE.out,if_pos (.inl hA)]
    rcases hE with ⟨rfl,rfl⟩ | ⟨⟨N,rfl⟩,-⟩
    all_goals
     go_wp2_with fail
     go_ret3
     exact ⟨by rw [HC.out];rfl,HB.out⟩
   ·rcases hE with ⟨rfl,rfl⟩ | ⟨-,hx⟩
    rotate_left
    ·exact absurd hx hA
    have hA' : v0 ≤ 1073741823:=by omega
    cases h48 : ((((bt x 0).toNat : Nat) : Int) == 48)
    all_goals
     have hq:=HB48.out
     rw [show (((48 : Nat) : Int)) = 48 from rfl,h48] at hq
     have HQ:=Lib.hid hq
     clear hq
    case true =>
     have h48' : bt x 0 = 48:=of_decide_eq_true HQ.out.symm
     by_cases hn1 : 1 < n
     ·have HC : Hid (cutF x = (0,0,2)):=by show _ = _;rw [HCE.out,if_pos (.inr (.inl ⟨hn1,h48'⟩))]
      clear h48'
      go_wp2_with fail
      go_ret3
      exact ⟨by rw [HC.out];rfl,HB.out⟩
     ·have HC2:=Lib.hid (fun h3 => HCE.out.trans (if_neg (fun h => h.elim hA (fun h => h.elim (fun h => hn1 h.1) h3))))
      clear h48'
      have HC1:=Lib.hid (fun h3 => HCE.out.trans (if_pos (.inr (.inr h3))))
      by_cases hn2 : n < x.size
      ·have HL2:=Lib.hid (letter_any (bt x n) w2)
       cases hlt : isLt (bt x n)
       ·rw [hlt] at HL2
        have HC:=Lib.hid (HC2.out (fun h => by rw [h.2] at hlt;cases hlt))
        clear hlt
        go_wp2_with (go_at_call 54;refine HL2.out.mono ?_;rintro e w' ⟨rfl,rfl⟩)
        go_ret3
        exact ⟨by rw [HC.out];rfl,HB.out⟩
       ·rw [hlt] at HL2
        have HC:=Lib.hid (HC1.out ⟨hn2,hlt⟩)
        clear hlt
        go_wp2_with (go_at_call 54;refine HL2.out.mono ?_;rintro e w' ⟨rfl,rfl⟩)
        go_ret3
        exact ⟨by rw [HC.out];rfl,HB.out⟩
      ·have HC:=Lib.hid (HC2.out (fun h => hn2 h.1))
       go_wp2_with fail
       go_ret3
       exact ⟨by rw [HC.out];rfl,HB.out⟩
    case false =>
     have h48' : ¬ bt x 0 = 48:=of_decide_eq_false HQ.out.symm
     have HC2:=Lib.hid (fun h3 => HCE.out.trans (if_neg (fun h => h.elim hA (fun h => h.elim (fun h => h48' h.2) h3))))
     clear h48'
     by_cases hn1 : 1 < n
     all_goals
      have HC1:=Lib.hid (fun h3 => HCE.out.trans (if_pos (.inr (.inr h3))))
      by_cases hn2 : n < x.size
      ·have HL2:=Lib.hid (letter_any (bt x n) w2)
       cases hlt : isLt (bt x n)
       ·rw [hlt] at HL2
        have HC:=Lib.hid (HC2.out (fun h => by rw [h.2] at hlt;cases hlt))
        clear hlt
        go_wp2_with (go_at_call 54;refine HL2.out.mono ?_;rintro e w' ⟨rfl,rfl⟩)
        go_ret3
        exact ⟨by rw [HC.out];rfl,HB.out⟩
       ·rw [hlt] at HL2
        have HC:=Lib.hid (HC1.out ⟨hn2,hlt⟩)
        clear hlt
        go_wp2_with (go_at_call 54;refine HL2.out.mono ?_;rintro e w' ⟨rfl,rfl⟩)
        go_ret3
        exact ⟨by rw [HC.out];rfl,HB.out⟩
      ·have HC:=Lib.hid (HC2.out (fun h => hn2 h.1))
       go_wp2_with fail
       go_ret3
       exact ⟨by rw [HC.out];rfl,HB.out⟩
  case false =>
   rw [c4] at HDG hce
   rw [if_neg (by decide)] at hce
   have HCE:=Lib.hid hce
   have HPR:=Lib.hid (lib_strings_HasPrefix x ⟨#[61,61]⟩ w)
   have HIB:=Lib.hid (lib_strings_IndexByte signsT ((bt x 0).toNat : Int) w)
   have hb8 : (((bt x 0).toNat : Int)).toNat.toUInt8 = bt x 0:=by rw [Int.toNat_natCast];exact UInt8.ofNat_toNat
   rw [hb8] at HIB
   clear hce c3 c4 hb8
   unfold CutTold
   have hph:=hp_iff h0
   have hpl : (⟨#[61,61]⟩ : ByteArray).data.toList = [61,61]:=rfl
   rw [hpl] at HPR
   by_cases h2 : 1 < x.size ∧ bt x 0 = 61 ∧ bt x 1 = 61
   ·have HC : Hid (cutF x = (4,2,0)):=by show _ = _;rw [HCE.out,sign_two h2.1 h2.2.1 h2.2.2];rfl
    rw [hph.2 h2] at HPR
    clear h2 hph hpl
    go_enter Tryz.func28,Tryz.ntmps28
    go_wp2_with (first
     | (go_at_call 54;refine HLT.out.mono ?_;rintro e w' ⟨rfl,rfl⟩)
     | (go_at_call 56;refine HDG.out.mono ?_;rintro e w' ⟨rfl,rfl⟩)
     | (go_at_call 59;refine HPR.out.mono ?_;rintro e w' ⟨rfl,rfl⟩))
    go_ret3
    exact ⟨by rw [HC.out];rfl,Below.refl _ _⟩
   ·have hs1:=sign_one h2
    have hpf : Lib.hasPrefix x.data.toList [61,61] = false:=by
     cases hh : Lib.hasPrefix x.data.toList [61,61] with
     | false => rfl
     | true => exact absurd (hph.1 hh) h2
    rw [hpf] at HPR
    have hib:=ib_iff (bt x 0) signsT.data.toList
    have hsg : signsT.data.toList = signsB:=rfl
    rw [hsg] at hib HIB
    unfold signsT at HIB
    generalize Lib.indexByte signsB (bt x 0) = q at *
    rcases hib with ⟨hq,hc⟩ | ⟨hq,hc⟩
    ·have HC : Hid (cutF x = (4,1,0)):=by show _ = _;rw [HCE.out,hs1,hc];rfl
     clear h2 hph hpl hs1 hpf hc hsg
     go_enter Tryz.func28,Tryz.ntmps28
     go_wp2_with (first
      | (go_at_call 54;refine HLT.out.mono ?_;rintro e w' ⟨rfl,rfl⟩)
      | (go_at_call 56;refine HDG.out.mono ?_;rintro e w' ⟨rfl,rfl⟩)
      | (go_at_call 59;refine HPR.out.mono ?_;rintro e w' ⟨rfl,rfl⟩)
      | (go_at_call 60;refine HIB.out.mono ?_;rintro e w' ⟨rfl,rfl⟩))
     go_ret3
     exact ⟨by rw [HC.out];rfl,Below.refl _ _⟩
    ·have HC : Hid (cutF x = (0,0,11)):=by show _ = _;rw [HCE.out,hs1,hc];rfl
     subst hq
     clear h2 hph hpl hs1 hpf hc hsg
     go_enter Tryz.func28,Tryz.ntmps28
     go_wp2_with (first
      | (go_at_call 54;refine HLT.out.mono ?_;rintro e w' ⟨rfl,rfl⟩)
      | (go_at_call 56;refine HDG.out.mono ?_;rintro e w' ⟨rfl,rfl⟩)
      | (go_at_call 59;refine HPR.out.mono ?_;rintro e w' ⟨rfl,rfl⟩)
      | (go_at_call 60;refine HIB.out.mono ?_;rintro e w' ⟨rfl,rfl⟩))
     go_ret3
     exact ⟨by rw [HC.out];rfl,Below.refl _ _⟩
end Go.Proofs.YtbpldfmmlgkfnaaGreatDoor

namespace Go.Proofs.YtbpldfmmlgkfnaaGreatDoor
open Go.RowKit
set_option linter.unusedVariables false

theorem LV.below {w w' : World} (h : LV w) (hb : Below w.heap.size w w') : LV w':=by
 obtain ⟨te,pe,hc⟩:=h
 exact ⟨te,pe,(hb.cell (p:=⟨1,0,none⟩) (World.block_lt_of_cell? w _ hc)).trans hc⟩
def ScanTold (s : ByteArray) (w : World) (e : Ending) (w' : World) : Prop:=Below w.heap.size w w' ∧ ∃ C c,e = .returned (.tuple #[.slice C (scanF s).1.length c,.agg #[.int .i64 (scanF s).2.1,.int .i64 ((scanF s).2.2 : Nat)]]) ∧ Toks w' C (scanF s).1
theorem cut_kind (x : ByteArray) : (cutF x).1 = 0 ∨ 0 < (cutF x).1:=by
 unfold cutF
 split
 ·exact .inl rfl
 ·repeat' split
  all_goals (dsimp only;omega)
theorem ownT_grown0 {w w' : World} {base : Nat} {v : Value} {l : List Tok} (h : OwnT w base v l) (hg : w.grownBy w' none) : OwnT w' base v l:=h.grown hg (by
 rcases e : v.ownBlock with _ | k
 ·exact .inl rfl
 ·exact .inr (fun h2 => by cases h2))
theorem fault_store {w wr : World} {n F : Nat} {t : TypeId} {f0 g0 : Value} (hb : Below n w wr) (hF : Blk wr F t #[f0,g0]) (h1 : n ≤ F) (f g : Value) :
  Below n w ((wr.setCell ⟨F,0,none⟩ f).setCell ⟨F,1,none⟩ g) ∧ Blk ((wr.setCell ⟨F,0,none⟩ f).setCell ⟨F,1,none⟩ g) F t #[f,g] ∧ (∀ k,k ≠ F → ((wr.setCell ⟨F,0,none⟩ f).setCell ⟨F,1,none⟩ g).heap[k]? = wr.heap[k]?) ∧ wr.heap.size ≤ ((wr.setCell ⟨F,0,none⟩ f).setCell ⟨F,1,none⟩ g).heap.size :=
 ⟨(hb.setCell (p:=⟨F,0,none⟩) h1 f).setCell (p:=⟨F,1,none⟩) h1 g,(hF.set_ 0 f).set_ 1 g,fun k hk => (Below.heap_setCell _ ⟨F,1,none⟩ _ _ hk).trans (Below.heap_setCell _ ⟨F,0,none⟩ _ _ hk),by simp⟩
theorem Toks.far {w W : World} {A : Option Addr} {l : List Tok} {n F : Nat} (h : Toks w A l) (hn : ∀ a,A = some a → n ≤ a.block) (hF : F < n) (hz : w.heap.size ≤ W.heap.size) (hk : ∀ k,k ≠ F → W.heap[k]? = w.heap[k]?) : Toks W A l:=fun hl => by
 obtain ⟨b,o,e,hlt,hc⟩:=h hl
 have hb : b ≠ F:=by have:=hn _ e;dsimp only at this;omega
 refine ⟨b,o,e,Nat.lt_of_lt_of_le hlt hz,fun i hi => ?_⟩
 obtain ⟨h1,h2,h3⟩:=hc i hi
 exact ⟨(World.cell?_of_block (a:=⟨b,o + i * 3,none⟩) (hk b hb)).trans h1,(World.cell?_of_block (a:=⟨b,o + i * 3 + 1,none⟩) (hk b hb)).trans h2,(World.cell?_of_block (a:=⟨b,o + i * 3 + 2,none⟩) (hk b hb)).trans h3⟩
theorem open_post {E : Act → World → Prop} {a : Act} {W : World} (Q : World → Prop) (hq : Q W) (h : ∀ W',Q W' → E a W') : E a W:=h W hq
set_option maxRecDepth 100000 in
set_option maxHeartbeats 2000000 in
theorem scan_any (s : ByteArray) (hs : s.size ≤ 9223372036854775807) (w : World) (hv : LV w) : Calls Tryz.prog 14 #[.string s] w (ScanTold s w):=by
 have hx0 : Below w.heap.size w (w.alloc (.cells #[.int .i64 0,.int .i64 0] 27)):=(Below.refl _ _).alloc (Nat.le_refl _) _
 have HX0:=Lib.hid hx0
 have HQ0:=Lib.hid (Blk.new w 27 #[.int .i64 0,.int .i64 0])
 have HV:=Lib.hid (hv.below hx0)
 clear hx0 hv
 by_cases hbig : 4000 < s.size
 ·have HS:=Lib.hid (At.big hbig)
  have hw1 : Below w.heap.size w (w.alloc (.cells #[.int .i64 1,.int .i64 0] 27)):=(Below.refl _ _).alloc (Nat.le_refl _) _
  have HW1:=Lib.hid hw1
  have hq1:=Blk.new w 27 #[.int .i64 1,.int .i64 0]
  obtain ⟨q1,q2,q3,q4,q5⟩:=hq1.f2
  clear hw1 hq1
  go_enter Tryz.func14,Tryz.ntmps14
  go_wp2_with fail
  refine bodyPost_ret (v:=.tuple #[.slice none 0 0,.agg #[.int .i64 1,.int .i64 0]]) (by simp [results,Tryz.results14,go_sem,q1,q2]) rfl ⟨HW1.out,none,0,?_,?_⟩
  ·rw [HS.out];rfl
  ·rw [HS.out];exact fun h => absurd h (Nat.lt_irrefl 0)
 have hle : s.size ≤ 4000:=by omega
 have HST:=Lib.hid (At.start hle)
 go_enter Tryz.func14,Tryz.ntmps14
 go_wp2_with fail
 generalize hw1 : (w.alloc (.cells #[.int .i64 0,.int .i64 0] 27)) = w1 at *
 clear hw1
 go_loopw [4,5] (fun v i wr => ∃ (k : Nat) (acc : List Tok),i = .int .i64 (k : Int) ∧ At s k acc ∧ OwnT wr w1.heap.size v acc ∧ Below w1.heap.size w1 wr ∧ acc.length ≤ k) (fun _ i _ => s.size - (intOf i).toNat)
 case atStart => exact ⟨0,[],rfl,HST.out,OwnT.nil _ _,Below.refl _ _,Nat.zero_le _⟩
 case round =>
  obtain ⟨k,acc,rfl,hat,hown,hbw,hac⟩:=hrel
  have HAT:=Lib.hid hat;have HOW:=Lib.hid hown;have HBW:=Lib.hid hbw
  have hks:=hat.1
  have HXW:=Lib.hid (HX0.out.trans (hbw.mono HX0.out.size))
  have HQ:=Lib.hid (HQ0.out.below hbw HQ0.out.lt)
  have hsz : w1.heap.size ≤ wr.heap.size:=hbw.size
  obtain ⟨C,cc,hC,htk,hlo⟩:=hown.toks
  have HTK:=Lib.hid htk;have HLO:=Lib.hid hlo
  subst hC
  clear hat hown hbw htk hlo
  by_cases hlt : k < s.size
  ·have hz:=sub_size s k
   have HCUT:=Lib.hid (cut_any (s.extract k s.size) (by omega) (by omega) wr (HV.out.below HBW.out))
   have HBAD:=Lib.hid (fun h => HAT.out.bad hlt h)
   have HNX:=Lib.hid (fun h => HAT.out.next hlt h)
   have HKD:=Lib.hid (cut_kind (s.extract k s.size))
   unfold CutTold at HCUT
   generalize cutF (s.extract k s.size) = r at *
   obtain ⟨r1,r2,r3⟩:=r
   dsimp only at HCUT HBAD HNX HKD
   clear hz
   go_wp2_with fail
   refine HCUT.out.mono ?_
   rintro e w2 ⟨rfl,hb2⟩
   have HXW2:=Lib.hid (HXW.out.trans (hb2.mono HXW.out.size))
   have HQ2:=Lib.hid (HQ.out.below hb2 HQ.out.lt)
   have HOW2:=Lib.hid (ownT_grown0 HOW.out (grownBy_below hb2))
   have HBW2:=Lib.hid (HBW.out.trans (hb2.mono HBW.out.size))
   have hFw : w.heap.size < w1.heap.size:=HQ0.out.lt
   have hkw : IntKind.i64.wrap ((k : Int) + (r2 : Int)) = (k : Int) + (r2 : Int) ∨ r3 ≠ 0:=by
    by_cases h : r3 = 0
    ·left
     have:=(HNX.out h).2.1
     exact IntWalk.i64_in _ (by omega)
    ·exact .inr h
   by_cases h3 : r3 = 0
   ·have hnx:=HNX.out h3
    obtain ⟨n1,n2,n3⟩:=hnx
    have HAN:=Lib.hid n3
    have hkw:=hkw.resolve_right (fun h => h h3)
    have hsz2 : w1.heap.size ≤ w2.heap.size:=HBW2.out.size
    clear n3 hb2
    rcases HKD.out with h1 | h1
    ·rw [if_pos h1] at HAN
     go_wp2_with fail
     go_roundw
     case rel => exact ⟨k + r2,acc,by go_num,HAN.out,HOW2.out,HBW2.out,by omega⟩
     case measure => simp [intOf];omega
    ·rw [if_neg (by omega)] at HAN
     have HOA:=Lib.hid (HOW2.out.alloc (.cells #[.int .i64 r1,.string (s.extract k (k + r2)),.int .i64 (k : Int)] 87))
     have HNW:=Lib.hid (tok_news w2 ⟨r1,s.extract k (k + r2),k⟩)
     have hsa : w1.heap.size ≤ (w2.alloc (.cells #[.int .i64 r1,.string (s.extract k (k + r2)),.int .i64 (k : Int)] 87)).heap.size:=by rw [World.size_alloc];omega
     have HBA : Hid (Below w1.heap.size w1 (w2.alloc (.cells #[.int .i64 r1,.string (s.extract k (k + r2)),.int .i64 (k : Int)] 87))):=HBW2.out.alloc hsz2 _
     go_wp2_with (at_builtin;refine wpList_pushT rfl _ _ rfl w1.heap.size _ acc rfl HOA.out ⟨r1,s.extract k (k + r2),k⟩ ⟨w2.heap.size,0,none⟩ 1 rfl HNW.out (by omega) hsa ?_;intro v9 w9 hown9 hgr9;have HOW9:=Lib.hid hown9;have HB9:=Lib.hid (HBA.out.grown hgr9 hsa (fun q hq => (HOA.out.lt q hq).1));clear hown9 hgr9)
     go_roundw
     case rel => exact ⟨k + r2,_,by go_num,HAN.out,HOW9.out,HB9.out,by simp;omega⟩
     case measure => simp [intOf];omega
   ·have HS:=Lib.hid (HBAD.out h3)
    have h3' : (r3 != 0) = true:=by simpa using h3
    have hfs:=fault_store HXW2.out HQ2.out (Nat.le_refl _) (.int .i64 r3) (.int .i64 (k : Int))
    have HFS:=Lib.hid hfs
    obtain ⟨q1,q2,q3,q4,q5⟩:=HQ2.out.f2
    clear hfs hb2 hkw h3
    go_wp2_with fail
    have hfs:=HFS.out
    refine open_post (fun W => Below w.heap.size w W ∧ Blk W w.heap.size 27 #[.int .i64 r3,.int .i64 (k : Int)] ∧ (∀ j,j ≠ w.heap.size → W.heap[j]? = w2.heap[j]?) ∧ w2.heap.size ≤ W.heap.size) hfs ?_
    rintro W ⟨hbW,hqW,-,-⟩
    obtain ⟨u1,u2,-⟩:=hqW.f2
    refine bodyPost_ret (v:=.tuple #[.slice none 0 0,.agg #[.int .i64 r3,.int .i64 (k : Int)]]) (by simp [results,Tryz.results14,go_sem,u1,u2]) rfl ⟨hbW,none,0,?_,?_⟩
    ·rw [HS.out];rfl
    ·rw [HS.out];exact fun h => absurd h (Nat.lt_irrefl 0)
  ·have hend:=HAT.out.stop hlt
   have HEND:=Lib.hid hend
   have hFw : w.heap.size < w1.heap.size:=HQ0.out.lt
   have hfs:=fault_store HXW.out HQ.out (Nat.le_refl _) (.int .i64 0) (.int .i64 0)
   have HFS:=Lib.hid hfs
   obtain ⟨q1,q2,q3,q4,q5⟩:=HQ.out.f2
   clear hend hfs
   go_wp2_with fail
   have hfs:=HFS.out
   refine open_post (fun W => Below w.heap.size w W ∧ Blk W w.heap.size 27 #[.int .i64 0,.int .i64 0] ∧ (∀ j,j ≠ w.heap.size → W.heap[j]? = wr.heap[j]?) ∧ wr.heap.size ≤ W.heap.size) hfs ?_
   rintro W ⟨hbW,hqW,hkW,hzW⟩
   obtain ⟨u1,u2,-⟩:=hqW.f2
   refine bodyPost_ret (v:=.tuple #[.slice C acc.length cc,.agg #[.int .i64 0,.int .i64 0]]) (by simp [results,Tryz.results14,go_sem,u1,u2]) rfl ⟨hbW,C,cc,?_,?_⟩
   ·rw [HEND.out];rfl
   ·rw [HEND.out];exact HTK.out.far HLO.out hFw hzW hkW
end Go.Proofs.YtbpldfmmlgkfnaaGreatDoor
