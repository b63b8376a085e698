/- Letters, digits and words, signs, as the document asks for them; words as the program does. Conditions: none. -/
import Derived.Test.YtacjkdopbelcpaaDoorLxA
import Derived.Test.YtacjkdopbelcpaaDoorLibS
namespace Go.Proofs.YtacjkdopbelcpaaDoor
open Go.RowKit
set_option linter.unusedVariables false

theorem rletter_any (b : UInt8) (w : World) : Calls Tryd.prog 7 #[.int .u8 (b.toNat : Int)] w fun e w' => e = .returned (.bool (isLt b)) ∧ w = w' := by
  unfold isLt
  generalize b.toNat = n
  rcases lt_cases n with h | h | h | h | h | h
  all_goals
    go_enter Tryd.func7, Tryd.ntmps7
    go_wp2
    go_ret
    exact ⟨ret_b (Bool.eq_iff_iff.2 (by simp <;> omega)), rfl⟩
theorem rdigit_any (b : UInt8) (w : World) : Calls Tryd.prog 8 #[.int .u8 (b.toNat : Int)] w fun e w' => e = .returned (.bool (isDg b)) ∧ w = w' := by
  unfold isDg
  generalize b.toNat = n
  rcases dg_cases n with h | h | h
  all_goals
    go_enter Tryd.func8, Tryd.ntmps8
    go_wp2
    go_ret
    exact ⟨ret_b (Bool.eq_iff_iff.2 (by simp <;> omega)), rfl⟩

theorem words_len : wordsBA.length = 18 := rfl
theorem words_cell (w : World) (j : Nat) (hj : j < wordsBA.length) : (w.alloc (.cells #[.string ⟨#[99, 108, 97, 115, 115]⟩, .string ⟨#[116, 111]⟩, .string ⟨#[115, 108, 111, 116]⟩, .string ⟨#[109, 97, 105, 110]⟩, .string ⟨#[118, 97, 114]⟩, .string ⟨#[105, 102]⟩, .string ⟨#[101, 108, 115, 101]⟩, .string ⟨#[119, 104, 105, 108, 101]⟩, .string ⟨#[114, 101, 116, 117, 114, 110]⟩, .string ⟨#[112, 114, 105, 110, 116]⟩, .string ⟨#[102, 111, 114, 107]⟩, .string ⟨#[119, 97, 105, 116]⟩, .string ⟨#[115, 105, 103, 110, 97, 108]⟩, .string ⟨#[115, 119, 97, 112]⟩, .string ⟨#[110, 101, 119]⟩, .string ⟨#[103, 97, 116, 101]⟩, .string ⟨#[110, 105, 108]⟩, .string ⟨#[115, 101, 108, 102]⟩] 9)).cell? ⟨w.heap.size, 0 + j, none⟩ = some (.string (wordsBA.getD j ByteArray.empty)) := by
  rw [Nat.zero_add, cell_new]
  have : (#[.string ⟨#[99, 108, 97, 115, 115]⟩, .string ⟨#[116, 111]⟩, .string ⟨#[115, 108, 111, 116]⟩, .string ⟨#[109, 97, 105, 110]⟩, .string ⟨#[118, 97, 114]⟩, .string ⟨#[105, 102]⟩, .string ⟨#[101, 108, 115, 101]⟩, .string ⟨#[119, 104, 105, 108, 101]⟩, .string ⟨#[114, 101, 116, 117, 114, 110]⟩, .string ⟨#[112, 114, 105, 110, 116]⟩, .string ⟨#[102, 111, 114, 107]⟩, .string ⟨#[119, 97, 105, 116]⟩, .string ⟨#[115, 105, 103, 110, 97, 108]⟩, .string ⟨#[115, 119, 97, 112]⟩, .string ⟨#[110, 101, 119]⟩, .string ⟨#[103, 97, 116, 101]⟩, .string ⟨#[110, 105, 108]⟩, .string ⟨#[115, 101, 108, 102]⟩] : Array Value) = (wordsBA.map Value.string).toArray := rfl
  rw [this, List.getElem?_toArray, List.getElem?_map, List.getElem?_eq_getElem hj, List.getD_eq_getElem?_getD, List.getElem?_eq_getElem hj]
  rfl
theorem word_any (x : ByteArray) (w : World) : Calls Tryd.prog 16 #[.string x] w fun e w' => e = .returned (.bool (wordB x)) ∧ Below w.heap.size w w' := by
  have HC := Lib.hid (lib_slices_Contains_string w.heap.size 0 18 18 wordsBA x _ (by rw [words_len]; omega) (by omega) (words_cell w))
  have hb : Below w.heap.size w (w.alloc (.cells #[.string ⟨#[99, 108, 97, 115, 115]⟩, .string ⟨#[116, 111]⟩, .string ⟨#[115, 108, 111, 116]⟩, .string ⟨#[109, 97, 105, 110]⟩, .string ⟨#[118, 97, 114]⟩, .string ⟨#[105, 102]⟩, .string ⟨#[101, 108, 115, 101]⟩, .string ⟨#[119, 104, 105, 108, 101]⟩, .string ⟨#[114, 101, 116, 117, 114, 110]⟩, .string ⟨#[112, 114, 105, 110, 116]⟩, .string ⟨#[102, 111, 114, 107]⟩, .string ⟨#[119, 97, 105, 116]⟩, .string ⟨#[115, 105, 103, 110, 97, 108]⟩, .string ⟨#[115, 119, 97, 112]⟩, .string ⟨#[110, 101, 119]⟩, .string ⟨#[103, 97, 116, 101]⟩, .string ⟨#[110, 105, 108]⟩, .string ⟨#[115, 101, 108, 102]⟩] 9)) := (Below.refl _ _).alloc (Nat.le_refl _) _
  have HB := Lib.hid hb
  clear hb
  go_enter Tryd.func16, Tryd.ntmps16
  go_wp2_with (first
    | (go_at_call 20; refine HC.out.mono ?_; rintro e w' ⟨rfl, rfl⟩)
    | go_in)
  go_ret
  exact ⟨rfl, HB.out⟩
theorem word_yes {x : ByteArray} {k : Nat} (hk : k < 18) (h : wordsBA.getD k ByteArray.empty = x) : wordB x = true := by
  unfold wordB
  rw [Lib.containsS_iff]
  have hl : k < wordsBA.length := hk
  rw [List.getD_eq_getElem?_getD, List.getElem?_eq_getElem hl] at h
  rw [← h]; exact List.getElem_mem hl
theorem word_no {x : ByteArray} (h : ∀ j, j < 18 → wordsBA.getD j ByteArray.empty ≠ x) : wordB x = false := by
  cases hw : wordB x with
  | false => rfl
  | true =>
    unfold wordB at hw
    rw [Lib.containsS_iff] at hw
    obtain ⟨j, hj, e⟩ := List.getElem_of_mem hw
    exact absurd (by rw [List.getD_eq_getElem?_getD, List.getElem?_eq_getElem hj]; exact e) (h j hj)
set_option maxRecDepth 100000 in
theorem rword_any (x : ByteArray) (w : World) : Calls Tryd.prog 9 #[.string x] w fun e w' => e = .returned (.bool (wordB x)) ∧ Below w.heap.size w w' := by
  have HC := Lib.hid (words_cell w)
  have hb : Below w.heap.size w (w.alloc (.cells #[.string ⟨#[99, 108, 97, 115, 115]⟩, .string ⟨#[116, 111]⟩, .string ⟨#[115, 108, 111, 116]⟩, .string ⟨#[109, 97, 105, 110]⟩, .string ⟨#[118, 97, 114]⟩, .string ⟨#[105, 102]⟩, .string ⟨#[101, 108, 115, 101]⟩, .string ⟨#[119, 104, 105, 108, 101]⟩, .string ⟨#[114, 101, 116, 117, 114, 110]⟩, .string ⟨#[112, 114, 105, 110, 116]⟩, .string ⟨#[102, 111, 114, 107]⟩, .string ⟨#[119, 97, 105, 116]⟩, .string ⟨#[115, 105, 103, 110, 97, 108]⟩, .string ⟨#[115, 119, 97, 112]⟩, .string ⟨#[110, 101, 119]⟩, .string ⟨#[103, 97, 116, 101]⟩, .string ⟨#[110, 105, 108]⟩, .string ⟨#[115, 101, 108, 102]⟩] 9)) := (Below.refl _ _).alloc (Nat.le_refl _) _
  have HB := Lib.hid hb
  clear hb
  go_enter Tryd.func9, Tryd.ntmps9
  go_wp2_with fail
  generalize (w.alloc (.cells #[.string ⟨#[99, 108, 97, 115, 115]⟩, .string ⟨#[116, 111]⟩, .string ⟨#[115, 108, 111, 116]⟩, .string ⟨#[109, 97, 105, 110]⟩, .string ⟨#[118, 97, 114]⟩, .string ⟨#[105, 102]⟩, .string ⟨#[101, 108, 115, 101]⟩, .string ⟨#[119, 104, 105, 108, 101]⟩, .string ⟨#[114, 101, 116, 117, 114, 110]⟩, .string ⟨#[112, 114, 105, 110, 116]⟩, .string ⟨#[102, 111, 114, 107]⟩, .string ⟨#[119, 97, 105, 116]⟩, .string ⟨#[115, 105, 103, 110, 97, 108]⟩, .string ⟨#[115, 119, 97, 112]⟩, .string ⟨#[110, 101, 119]⟩, .string ⟨#[103, 97, 116, 101]⟩, .string ⟨#[110, 105, 108]⟩, .string ⟨#[115, 101, 108, 102]⟩] 9)) = w1 at *
  go_loop [4] (fun i => ∃ k : Nat, i = .int .i64 (k : Int) ∧ k ≤ 18 ∧ ∀ j, j < k → wordsBA.getD j ByteArray.empty ≠ x) (fun i => 18 - (intOf i).toNat)
  case atStart => exact ⟨0, rfl, Nat.zero_le _, fun j h => absurd h (Nat.not_lt_zero _)⟩
  case round =>
    obtain ⟨k, rfl, hk, hall⟩ := hrel
    have HALL := Lib.hid hall; clear hall
    by_cases hlt : k < 18
    · have hc := HC.out k hlt
      rw [Nat.zero_add] at hc
      have HEQ := Lib.hid (Lib.bytes_beq_iff (wordsBA.getD k ByteArray.empty) x)
      have HNE := Lib.hid (Lib.bytes_beq_false_iff (wordsBA.getD k ByteArray.empty) x)
      have HYES := Lib.hid (fun h => word_yes (x := x) hlt h)
      have HN : Hid (wordsBA.getD k ByteArray.empty ≠ x → ∀ j, j < k + 1 → wordsBA.getD j ByteArray.empty ≠ x) := fun h j hj => by
        rcases Nat.lt_or_ge j k with h2 | h2
        · exact HALL.out j h2
        · obtain rfl : j = k := by omega
          exact h
      generalize wordsBA.getD k ByteArray.empty = y at *
      cases he : (y.toList == x.toList)
      · have HS := Lib.hid (HN.out (HNE.out.1 he))
        go_wp2_with fail
        go_round
        case rel => exact ⟨k + 1, by go_num, by omega, HS.out⟩
        case measure => simp [intOf]; omega
      · have HW := Lib.hid (HYES.out (HEQ.out.1 he))
        go_wp2_with fail
        go_ret
        exact ⟨by rw [HW.out]; rfl, HB.out⟩
    · obtain rfl : k = 18 := by omega
      have HW := Lib.hid (word_no HALL.out)
      go_wp2_with fail
      go_ret
      exact ⟨by rw [HW.out]; rfl, HB.out⟩

/-- The signs, as a text. -/
def signsT : ByteArray := ⟨#[43, 45, 42, 60, 61, 33, 46, 44, 59, 58, 40, 41, 123, 125]⟩
theorem sign_yes {b : UInt8} {k : Nat} (hk : k < 14) (h : bt signsT k = b) : signsB.contains b = true := by
  have : ∀ k, k < 14 → signsB.contains (bt signsT k) = true := by decide
  rw [← h]; exact this k hk
theorem sign_no {b : UInt8} (h : ∀ j, j < 14 → bt signsT j ≠ b) : signsB.contains b = false := by
  cases hs : signsB.contains b with
  | false => rfl
  | true =>
    have hm : b ∈ signsB := by simpa using hs
    obtain ⟨j, hj, e⟩ := List.getElem_of_mem hm
    refine absurd ?_ (h j hj)
    rw [← e]
    show signsB.getD j 0 = signsB[j]
    rw [List.getD_eq_getElem?_getD, List.getElem?_eq_getElem hj]; rfl
theorem u8_eq {a b : UInt8} : (((a.toNat : Int) == (b.toNat : Int)) = true) ↔ a = b := by
  rw [beq_iff_eq]
  constructor
  · intro h; exact UInt8.toNat_inj.1 (by omega)
  · rintro rfl; rfl
theorem drewN2 (w : World) (m n : Nat) : (w.drewN m).drewN n = w.drewN (m + n) := by
  unfold World.drewN
  simp only [Nat.add_assoc]
theorem u8_ne {a b : UInt8} (h : ((a.toNat : Int) == (b.toNat : Int)) = false) : a ≠ b := by
  intro e
  rw [u8_eq.2 e] at h; cases h
theorem sign_two {x : ByteArray} (h : 1 < x.size) (h0 : bt x 0 = 61) (h1 : bt x 1 = 61) : signN (bt x 0) (if 1 < x.size then some (bt x 1) else none) = 2 := by
  unfold signN
  rw [if_pos h, if_pos ⟨h0, by rw [h1]⟩]
theorem sign_one {x : ByteArray} (h : ¬ (1 < x.size ∧ bt x 0 = 61 ∧ bt x 1 = 61)) : signN (bt x 0) (if 1 < x.size then some (bt x 1) else none) = if signsB.contains (bt x 0) = true then 1 else 0 := by
  unfold signN
  rw [if_neg]
  rintro ⟨h0, h1⟩
  split at h1
  · rename_i h2
    exact h ⟨h2, h0, Option.some.inj h1⟩
  · cases h1
theorem is61 (b : UInt8) : ((b.toNat : Int) == 61) = true ↔ b = 61 := u8_eq (a := b) (b := 61)
set_option maxRecDepth 100000 in
theorem sign_any (x : ByteArray) (hx : 0 < x.size) (hs : x.size ≤ 9223372036854775807) (w : World) : Calls Tryd.prog 10 #[.string x] w fun e w' =>
    e = .returned (.int .i64 (signN (bt x 0) (if 1 < x.size then some (bt x 1) else none) : Nat)) ∧ ∃ m, w' = w.drewN m := by
  by_cases h2 : 1 < x.size ∧ bt x 0 = 61 ∧ bt x 1 = 61
  · obtain ⟨h3, h4, h5⟩ := h2
    have HV := Lib.hid (sign_two h3 h4 h5)
    have e0 := (is61 _).2 h4
    have e1 := (is61 _).2 h5
    clear h4 h5
    generalize hv : signN (bt x 0) (if 1 < x.size then some (bt x 1) else none) = v at *
    have HVV := HV.out
    subst HVV
    clear hv
    go_enter Tryd.func10, Tryd.ntmps10
    go_wp2
    go_ret
    exact ⟨rfl, 0, rfl⟩
  · have HV := Lib.hid (sign_one h2)
    generalize signN (bt x 0) (if 1 < x.size then some (bt x 1) else none) = v at *
    have hc : (¬ 1 < x.size) ∨ (1 < x.size ∧ ((((bt x 0).toNat : Nat) : Int) == 61) = false) ∨ (1 < x.size ∧ ((((bt x 0).toNat : Nat) : Int) == 61) = true ∧ ((((bt x 1).toNat : Nat) : Int) == 61) = false) := by
      by_cases h3 : 1 < x.size
      · right
        cases h4 : ((((bt x 0).toNat : Nat) : Int) == 61)
        · exact .inl ⟨h3, rfl⟩
        · right
          refine ⟨h3, rfl, ?_⟩
          cases h5 : ((((bt x 1).toNat : Nat) : Int) == 61)
          · rfl
          · exact absurd ⟨h3, (is61 _).1 h4, (is61 _).1 h5⟩ h2
      · exact .inl h3
    clear h2
    have HZ : Hid (∀ k, k < 14 → k < signsT.size) := fun k h => h
    rcases hc with h3 | ⟨h3, h4⟩ | ⟨h3, h4, h5⟩
    all_goals
      go_enter Tryd.func10, Tryd.ntmps10
      go_wp2_with fail
      go_loopw [4] (fun i wr => ∃ (k m : Nat), i = .int .i64 (k : Int) ∧ k ≤ 14 ∧ wr = w.drewN m ∧ ∀ j, j < k → bt signsT j ≠ bt x 0) (fun i _ => 14 - (intOf i).toNat)
      case atStart => exact ⟨0, 0, rfl, Nat.zero_le _, rfl, fun j h => absurd h (Nat.not_lt_zero _)⟩
      case round =>
        obtain ⟨k, m, rfl, hk, rfl, hall⟩ := hrel
        have HALL := Lib.hid hall; clear hall
        by_cases hlt : k < 14
        · cases he : ((((bt x 0).toNat : Nat) : Int) == (((bt signsT k).toNat : Nat) : Int))
          · have HN : Hid (∀ j, j < k + 1 → bt signsT j ≠ bt x 0) := fun j hj => by
              rcases Nat.lt_or_ge j k with h2 | h2
              · exact HALL.out j h2
              · obtain rfl : j = k := by omega
                exact fun e => u8_ne he e.symm
            unfold signsT at he
            go_wp2_with fail
            go_quiet (fail)
            go_wp2
            go_roundw
            case rel => exact ⟨k + 1, _, by go_num, by omega, rfl, HN.out⟩
            case measure => simp [intOf]; omega
          · have HW := Lib.hid (sign_yes hlt (u8_eq.1 he).symm)
            unfold signsT at he
            go_wp2_with fail
            go_quiet (fail)
            go_wp2
            go_ret
            exact ⟨by rw [HV.out, HW.out]; rfl, _, drewN2 _ _ _⟩
        · obtain rfl : k = 14 := by omega
          have HW := Lib.hid (sign_no HALL.out)
          go_wp2_with fail
          go_ret
          exact ⟨by rw [HV.out, HW.out]; rfl, _, rfl⟩
end Go.Proofs.YtacjkdopbelcpaaDoor
