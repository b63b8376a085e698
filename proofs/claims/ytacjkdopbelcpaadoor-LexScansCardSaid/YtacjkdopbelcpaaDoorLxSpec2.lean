/- Plain laws of tokens: bytes by their places, spans by their ends, numbers reckoned no further than they need be. No program in sight. Conditions: none. -/
import Derived.Test.YtacjkdopbelcpaaDoorLxSpec
namespace Go.Proofs.YtacjkdopbelcpaaDoor
open Go
set_option linter.unusedVariables false

/-- The byte at a place. -/
def bt (s : ByteArray) (j : Nat) : UInt8 := s.data.toList.getD j 0
theorem size_len (s : ByteArray) : s.data.toList.length = s.size := Array.length_toList
theorem idx_bt (s : ByteArray) (j : Nat) (h : j < s.size) : s[j]'h = bt s j := by
  unfold bt
  have h2 : j < s.data.toList.length := by rw [size_len]; exact h
  rw [List.getD_eq_getElem?_getD, List.getElem?_eq_getElem h2, Option.getD_some, Array.getElem_toList]
  rfl
theorem bt_list (s : ByteArray) {j : Nat} (h : j < s.data.toList.length) : s.data.toList[j] = bt s j := by
  unfold bt; rw [List.getD_eq_getElem?_getD, List.getElem?_eq_getElem h]; rfl
theorem ext_list (s : ByteArray) (i k : Nat) : (s.extract i k).data.toList = (s.data.toList.drop i).take (k - i) := by
  rw [ByteArray.data_extract, Array.toList_extract]
theorem ext_bt (s : ByteArray) {i k j : Nat} (hj : i + j < k) (hk : k ≤ s.size) : bt (s.extract i k) j = bt s (i + j) := by
  unfold bt
  rw [ext_list, List.getD_eq_getElem?_getD, List.getD_eq_getElem?_getD, List.getElem?_take, if_pos (by omega), List.getElem?_drop]
theorem ext_size (s : ByteArray) {i k : Nat} (hk : k ≤ s.size) : (s.extract i k).size = k - i := by
  rw [← size_len, ext_list, List.length_take, List.length_drop, size_len]; omega
theorem ext_ext (s : ByteArray) {i n : Nat} (h : i + n ≤ s.size) : (s.extract i s.size).extract 0 n = s.extract i (i + n) := by
  apply ByteArray.ext
  apply Array.toList_inj.1
  rw [ext_list, ext_list, ext_list, List.drop_zero, List.take_take]
  congr 1
  omega
/-- The span of what is so, by its end. -/
theorem span_at {s : ByteArray} {f : UInt8 → Bool} {k : Nat} (hk : k ≤ s.size) (h1 : ∀ j, j < k → f (bt s j) = true) (h2 : k < s.size → f (bt s k) = false) : spanF f s.data.toList = k :=
  spanF_eq (by rw [size_len]; exact hk) (fun j hj hjk => by rw [bt_list]; exact h1 j hjk) (fun h => by rw [bt_list]; exact h2 (by rw [size_len] at h; exact h))
/-- The span of what is so behind a place, by its end. -/
theorem span_off {s : ByteArray} {f : UInt8 → Bool} {i k : Nat} (hik : i ≤ k) (hk : k ≤ s.size) (h1 : ∀ j, i ≤ j → j < k → f (bt s j) = true) (h2 : k < s.size → f (bt s k) = false) : spanF f (s.extract i s.size).data.toList = k - i := by
  refine span_at (s := s.extract i s.size) (by rw [sub_size]; omega) (fun j hj => ?_) (fun h => ?_)
  · rw [ext_bt (s := s) (i := i) (k := s.size) (j := j) (by omega) (Nat.le_refl _)]; exact h1 _ (by omega) (by omega)
  · rw [sub_size] at h
    rw [ext_bt (s := s) (i := i) (k := s.size) (j := k - i) (by omega) (Nat.le_refl _), show i + (k - i) = k by omega]; exact h2 (by omega)
/-- The number that digits spell, reckoned no further than it need be. -/
def capF (acc : Nat) : List UInt8 → Nat
  | [] => acc
  | b :: l => capF (if acc ≤ 1073741823 then 10 * acc + (b.toNat - 48) else acc) l
theorem capF_snoc : ∀ (l : List UInt8) (b : UInt8) (acc : Nat), capF acc (l ++ [b]) = if capF acc l ≤ 1073741823 then 10 * capF acc l + (b.toNat - 48) else capF acc l
  | [], b, acc => rfl
  | c :: l, b, acc => capF_snoc l b _
theorem capF_big : ∀ (l : List UInt8) (acc : Nat), 1073741823 < acc → capF acc l = acc
  | [], acc, _ => rfl
  | b :: l, acc, h => by
    show capF (if acc ≤ 1073741823 then _ else acc) l = acc
    rw [if_neg (by omega)]
    exact capF_big l acc h
theorem cap_iff : ∀ (l : List UInt8) (acc : Nat), 1073741823 < capF acc l ↔ 1073741823 < numF acc l
  | [], acc => Iff.rfl
  | b :: l, acc => by
    by_cases h : acc ≤ 1073741823
    · show 1073741823 < capF (if acc ≤ 1073741823 then _ else acc) l ↔ 1073741823 < numF (10 * acc + (b.toNat - 48)) l
      rw [if_pos h]
      exact cap_iff l _
    · have h1 := capF_big (b :: l) acc (by omega)
      have h2 := numF_ge (b :: l) acc
      rw [h1]; omega
theorem capF_le : ∀ (l : List UInt8) (acc : Nat), acc ≤ 10737418245 → (∀ b ∈ l, isDg b = true) → capF acc l ≤ 10737418245
  | [], acc, h, _ => h
  | b :: l, acc, h, hl => by
    have hb := hl b (by simp)
    unfold isDg at hb
    simp only [Bool.and_eq_true, decide_eq_true_eq] at hb
    refine capF_le l _ ?_ (fun c hc => hl c (by simp [hc]))
    split <;> omega

theorem take_bt {x : ByteArray} {k : Nat} (h : k < x.size) : x.data.toList.take (k + 1) = x.data.toList.take k ++ [bt x k] := by
  have h2 : k < x.data.toList.length := by rw [size_len]; exact h
  rw [List.take_succ_eq_append_getElem h2, bt_list]
/-! What a text begins with, case by case. -/
section
variable {x : ByteArray} (h : 0 < x.size)
include h
theorem cut_eq : cutF x = if bt x 0 = 32 ∨ bt x 0 = 9 ∨ bt x 0 = 10 then (0, 1, 0) else if bt x 0 = 35 then (0, spanF isNl x.data.toList, 0)
    else if isLt (bt x 0) = true then (if wordB (x.extract 0 (spanF isLd x.data.toList)) = true then 3 else 1, spanF isLd x.data.toList, 0)
    else if isDg (bt x 0) = true then
      (if 1073741823 < numF 0 (x.data.toList.take (spanF isDg x.data.toList)) ∨ (1 < spanF isDg x.data.toList ∧ bt x 0 = 48) ∨ (spanF isDg x.data.toList < x.size ∧ isLt (bt x (spanF isDg x.data.toList)) = true) then (0, 0, 2) else (2, spanF isDg x.data.toList, 0))
    else if signN (bt x 0) (if 1 < x.size then some (bt x 1) else none) = 0 then (0, 0, 11) else (4, signN (bt x 0) (if 1 < x.size then some (bt x 1) else none), 0) := by
  obtain ⟨b, r, e⟩ := cut_cons h
  have hb : bt x 0 = b := by unfold bt; rw [e]; rfl
  have hz : (b :: r).length = x.size := by rw [← e]; exact size_len x
  have hg : ∀ k, ((b :: r)[k]?.map isLt = some true) = (k < x.size ∧ isLt (bt x k) = true) := fun k => by
    unfold bt; rw [e, List.getD_eq_getElem?_getD]
    by_cases hk : k < (b :: r).length
    · rw [List.getElem?_eq_getElem hk]
      have : k < x.size := by rw [← hz]; exact hk
      simp [this]
    · rw [List.getElem?_eq_none (by omega)]
      have : ¬ k < x.size := by rw [← hz]; exact hk
      simp [this]
  have hh : r.head? = if 1 < x.size then some (bt x 1) else none := by
    unfold bt; rw [e]
    cases r with
    | nil => rw [if_neg (by rw [← hz]; simp)]; rfl
    | cons c r => rw [if_pos (by rw [← hz]; simp)]; rfl
  rw [hb]
  conv => lhs; unfold cutF
  rw [e]
  dsimp only
  rw [hh]
  simp only [hg]
end
end Go.Proofs.YtacjkdopbelcpaaDoor
