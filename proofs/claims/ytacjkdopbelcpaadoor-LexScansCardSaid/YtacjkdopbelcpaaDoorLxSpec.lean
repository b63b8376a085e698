/- Plain laws of tokens: what a text begins with, how it is cut. No program in sight. Conditions: none. -/
import Derived.Lib.AtoiAll
import Derived.Lib.SlicesS
namespace Go.Proofs.YtacjkdopbelcpaaDoor
open Go
set_option linter.unusedVariables false

def isLt (b : UInt8) : Bool := (decide (97 ≤ b.toNat) && decide (b.toNat ≤ 122)) || (decide (65 ≤ b.toNat) && decide (b.toNat ≤ 90)) || decide (b.toNat = 95)
def isDg (b : UInt8) : Bool := decide (48 ≤ b.toNat) && decide (b.toNat ≤ 57)
def isLd (b : UInt8) : Bool := isLt b || isDg b
def isNl (b : UInt8) : Bool := !decide (b.toNat = 10)
/-- How many bytes are so, from the first on. -/
def spanF (f : UInt8 → Bool) : List UInt8 → Nat
  | [] => 0
  | b :: l => if f b = true then spanF f l + 1 else 0
theorem spanF_le (f : UInt8 → Bool) : ∀ l : List UInt8, spanF f l ≤ l.length
  | [] => Nat.le_refl _
  | b :: l => by
    have := spanF_le f l
    unfold spanF; split <;> simp <;> omega
theorem spanF_all {f : UInt8 → Bool} : ∀ {l : List UInt8} {j : Nat} (h : j < l.length), j < spanF f l → f l[j] = true
  | b :: l, 0, _, h => by
    unfold spanF at h
    split at h
    · simpa
    · omega
  | b :: l, j + 1, hj, h => by
    unfold spanF at h
    split at h
    · exact spanF_all (l := l) (by simpa using hj) (by omega)
    · omega
theorem spanF_stop {f : UInt8 → Bool} : ∀ {l : List UInt8} (h : spanF f l < l.length), f l[spanF f l] = false
  | b :: l, h => by
    by_cases hb : f b = true
    · have e : spanF f (b :: l) = spanF f l + 1 := by show (if f b = true then _ else _) = _; rw [if_pos hb]
      have h2 : spanF f l < l.length := by rw [e] at h; simpa using h
      have h3 := spanF_stop h2
      simp only [e, List.getElem_cons_succ]
      exact h3
    · have e : spanF f (b :: l) = 0 := by show (if f b = true then _ else _) = _; rw [if_neg hb]
      simp only [e, List.getElem_cons_zero]
      simpa using hb
/-- The span is where what is so ends. -/
theorem spanF_eq {f : UInt8 → Bool} {l : List UInt8} {k : Nat} (hk : k ≤ l.length) (h1 : ∀ j (hj : j < l.length), j < k → f l[j] = true) (h2 : ∀ h : k < l.length, f l[k] = false) : spanF f l = k := by
  rcases Nat.lt_trichotomy (spanF f l) k with h | h | h
  · have h3 := spanF_stop (f := f) (l := l) (by omega)
    rw [h1 _ (by omega) h] at h3; cases h3
  · exact h
  · have h4 := spanF_le f l
    have h3 := spanF_all (f := f) (l := l) (j := k) (by omega) h
    rw [h2 (by omega)] at h3; cases h3
/-- The number that digits spell. -/
def numF (acc : Nat) : List UInt8 → Nat
  | [] => acc
  | b :: l => numF (10 * acc + (b.toNat - 48)) l
theorem numF_ge : ∀ (l : List UInt8) (acc : Nat), acc ≤ numF acc l
  | [], acc => Nat.le_refl _
  | b :: l, acc => by
    have := numF_ge l (10 * acc + (b.toNat - 48))
    show acc ≤ numF (10 * acc + (b.toNat - 48)) l
    omega
theorem numF_snoc : ∀ (l : List UInt8) (b : UInt8) (acc : Nat), numF acc (l ++ [b]) = 10 * numF acc l + (b.toNat - 48)
  | [], b, acc => rfl
  | c :: l, b, acc => numF_snoc l b _
/-- What the library's Atoi tells of digits. -/
theorem parse_digits : ∀ (l : List UInt8) (acc : Nat), (∀ b ∈ l, isDg b = true) → acc < 18446744073709551616 → Lib.parseUint10 acc l = if numF acc l < 18446744073709551616 then .ok (numF acc l) else .range
  | [], acc, _, ha => by
    show Lib.NumEnd.ok acc = if acc < _ then _ else _
    rw [if_pos ha]; rfl
  | b :: l, acc, h, ha => by
    have hb := h b (by simp)
    unfold isDg at hb
    simp only [Bool.and_eq_true, decide_eq_true_eq] at hb
    have hge := numF_ge l (10 * acc + (b.toNat - 48))
    have e : numF acc (b :: l) = numF (10 * acc + (b.toNat - 48)) l := rfl
    unfold Lib.parseUint10
    rw [if_pos hb]
    by_cases h1 : 1844674407370955162 ≤ acc
    · rw [if_pos h1, if_neg (by rw [e]; omega)]
    · rw [if_neg h1]
      by_cases h2 : 18446744073709551616 ≤ acc * 10 + (b.toNat - 48)
      · rw [if_pos h2, if_neg (by rw [e]; omega)]
      · rw [if_neg h2, parse_digits l _ (fun c hc => h c (by simp [hc])) (by omega), e, show acc * 10 + (b.toNat - 48) = 10 * acc + (b.toNat - 48) by omega]
theorem atoi_digits {b : UInt8} {l : List UInt8} (h : ∀ c ∈ b :: l, isDg c = true) : Lib.atoiAll (b :: l) = if numF 0 (b :: l) < 9223372036854775808 then .ok (numF 0 (b :: l) : Int) else .range := by
  have hb := h b (by simp)
  unfold isDg at hb
  simp only [Bool.and_eq_true, decide_eq_true_eq] at hb
  have h43 : ¬ (b.toNat = 43 ∨ b.toNat = 45) := by omega
  have h45 : ¬ b.toNat = 45 := by omega
  unfold Lib.atoiAll
  simp only [if_neg h43]
  unfold Lib.parseMag
  rw [if_neg (by simp), parse_digits _ 0 h (by omega)]
  by_cases h1 : numF 0 (b :: l) < 18446744073709551616
  · rw [if_pos h1]
    simp only [h45, not_false_eq_true, true_and, false_and, if_false]
    by_cases h2 : numF 0 (b :: l) < 9223372036854775808
    · rw [if_pos h2, if_neg (by omega)]
    · rw [if_neg h2, if_pos (by omega)]
  · rw [if_neg h1, if_neg (by omega)]

/-- The words. -/
def wordsBA : List ByteArray := [⟨#[99, 108, 97, 115, 115]⟩, ⟨#[116, 111]⟩, ⟨#[115, 108, 111, 116]⟩, ⟨#[109, 97, 105, 110]⟩, ⟨#[118, 97, 114]⟩, ⟨#[105, 102]⟩, ⟨#[101, 108, 115, 101]⟩, ⟨#[119, 104, 105, 108, 101]⟩, ⟨#[114, 101, 116, 117, 114, 110]⟩, ⟨#[112, 114, 105, 110, 116]⟩, ⟨#[102, 111, 114, 107]⟩, ⟨#[119, 97, 105, 116]⟩, ⟨#[115, 105, 103, 110, 97, 108]⟩, ⟨#[115, 119, 97, 112]⟩, ⟨#[110, 101, 119]⟩, ⟨#[103, 97, 116, 101]⟩, ⟨#[110, 105, 108]⟩, ⟨#[115, 101, 108, 102]⟩]
def wordB (x : ByteArray) : Bool := Lib.containsS wordsBA x
/-- The signs of one byte. -/
def signsB : List UInt8 := [43, 45, 42, 60, 61, 33, 46, 44, 59, 58, 40, 41, 123, 125]
def signN (b : UInt8) (c : Option UInt8) : Nat := if b = 61 ∧ c = some 61 then 2 else if signsB.contains b = true then 1 else 0
/-- What a text that is not empty begins with: its kind (0: what stands between), its length, what is wrong. -/
def cutF (x : ByteArray) : Int × Nat × Int :=
  match x.data.toList with
  | [] => (0, 0, 0)
  | b :: r =>
    if b = 32 ∨ b = 9 ∨ b = 10 then (0, 1, 0)
    else if b = 35 then (0, spanF isNl (b :: r), 0)
    else if isLt b = true then (if wordB (x.extract 0 (spanF isLd (b :: r))) = true then 3 else 1, spanF isLd (b :: r), 0)
    else if isDg b = true then
      (if 1073741823 < numF 0 ((b :: r).take (spanF isDg (b :: r))) ∨ (1 < spanF isDg (b :: r) ∧ b = 48) ∨ (((b :: r)[spanF isDg (b :: r)]?).map isLt = some true) then (0, 0, 2) else (2, spanF isDg (b :: r), 0))
    else if signN b r.head? = 0 then (0, 0, 11) else (4, signN b r.head?, 0)
/-- A token. -/
structure Tok where
  kind : Int
  text : ByteArray
  at_ : Nat
/-- A text cut, from a place on, behind what was cut: its tokens, or what is wrong first and where. -/
def scanA (s : ByteArray) : Nat → Nat → List Tok → List Tok × Int × Nat
  | 0, i, acc => (acc, 0, 0)
  | fuel + 1, i, acc =>
    if i < s.size then
      if (cutF (s.extract i s.size)).2.2 = 0 then
        scanA s fuel (i + (cutF (s.extract i s.size)).2.1) (if (cutF (s.extract i s.size)).1 = 0 then acc else acc ++ [⟨(cutF (s.extract i s.size)).1, s.extract i (i + (cutF (s.extract i s.size)).2.1), i⟩])
      else ([], (cutF (s.extract i s.size)).2.2, i)
    else (acc, 0, 0)
def scanF (s : ByteArray) : List Tok × Int × Nat := if 4000 < s.size then ([], 1, 0) else scanA s (s.size + 1) 0 []
/-- Where a cut stands: what is still to be cut gives the whole. -/
def At (s : ByteArray) (i : Nat) (acc : List Tok) : Prop := i ≤ s.size ∧ ∃ fuel, s.size - i < fuel ∧ scanF s = scanA s fuel i acc
theorem cut_cons {x : ByteArray} (h : 0 < x.size) : ∃ b r, x.data.toList = b :: r := by
  cases e : x.data.toList with
  | nil =>
    have : x.data.toList.length = x.size := Array.length_toList
    rw [e] at this; simp at this; omega
  | cons b r => exact ⟨b, r, rfl⟩
theorem span_pos {f : UInt8 → Bool} {b : UInt8} {r : List UInt8} (h : f b = true) : 0 < spanF f (b :: r) := by
  show 0 < (if f b = true then spanF f r + 1 else 0)
  rw [if_pos h]; omega
theorem signN_le {b : UInt8} {r : List UInt8} : signN b r.head? ≤ (b :: r).length := by
  unfold signN
  split
  · rename_i h
    cases r with
    | nil => simp at h
    | cons c r => simp
  · split <;> simp
theorem cut_len {x : ByteArray} (h : 0 < x.size) (h0 : (cutF x).2.2 = 0) : 0 < (cutF x).2.1 ∧ (cutF x).2.1 ≤ x.size := by
  obtain ⟨b, r, e⟩ := cut_cons h
  have hl : (b :: r).length = x.size := by rw [← e]; exact Array.length_toList
  unfold cutF at h0 ⊢
  rw [e] at h0 ⊢
  dsimp only at h0 ⊢
  by_cases h1 : b = 32 ∨ b = 9 ∨ b = 10
  · rw [if_pos h1]; simp; omega
  rw [if_neg h1] at h0 ⊢
  by_cases h2 : b = 35
  · rw [if_pos h2]
    subst h2
    have h3 := spanF_le isNl ((35 : UInt8) :: r)
    have h4 := span_pos (f := isNl) (b := 35) (r := r) (by decide)
    simp only; omega
  rw [if_neg h2] at h0 ⊢
  by_cases h3 : isLt b = true
  · rw [if_pos h3]
    have h4 := spanF_le isLd (b :: r)
    have h5 := span_pos (f := isLd) (b := b) (r := r) (by unfold isLd; rw [h3]; rfl)
    simp only; omega
  rw [if_neg h3] at h0 ⊢
  by_cases h4 : isDg b = true
  · rw [if_pos h4] at h0 ⊢
    have h5 := spanF_le isDg (b :: r)
    have h6 := span_pos (f := isDg) (b := b) (r := r) h4
    split at h0
    · simp at h0
    · rename_i hn
      rw [if_neg hn]
      simp only; omega
  rw [if_neg h4] at h0 ⊢
  have h5 := signN_le (b := b) (r := r)
  by_cases h6 : signN b r.head? = 0
  · rw [if_pos h6] at h0; simp at h0
  · rw [if_neg h6]
    simp only; omega
theorem sub_size (s : ByteArray) (i : Nat) : (s.extract i s.size).size = s.size - i := by
  have : (s.extract i s.size).data.size = s.size - i := by
    rw [ByteArray.data_extract, Array.size_extract]; show min s.size s.size - i = _; omega
  exact this
theorem At.start {s : ByteArray} (h : s.size ≤ 4000) : At s 0 [] := ⟨by omega, s.size + 1, by omega, by unfold scanF; rw [if_neg (by omega)]⟩
theorem At.big {s : ByteArray} (h : 4000 < s.size) : scanF s = ([], 1, 0) := by unfold scanF; rw [if_pos h]
theorem At.stop {s : ByteArray} {i : Nat} {acc : List Tok} (h : At s i acc) (hi : ¬ i < s.size) : scanF s = (acc, 0, 0) := by
  obtain ⟨-, fuel, hf, e⟩ := h
  rw [e]
  cases fuel with
  | zero => rfl
  | succ n => unfold scanA; rw [if_neg hi]
theorem At.bad {s : ByteArray} {i : Nat} {acc : List Tok} (h : At s i acc) (hi : i < s.size) (he : (cutF (s.extract i s.size)).2.2 ≠ 0) : scanF s = ([], (cutF (s.extract i s.size)).2.2, i) := by
  obtain ⟨-, fuel, hf, e⟩ := h
  rw [e]
  cases fuel with
  | zero => omega
  | succ n => unfold scanA; rw [if_pos hi, if_neg he]
theorem At.next {s : ByteArray} {i : Nat} {acc : List Tok} (h : At s i acc) (hi : i < s.size) (he : (cutF (s.extract i s.size)).2.2 = 0) :
    i < i + (cutF (s.extract i s.size)).2.1 ∧ i + (cutF (s.extract i s.size)).2.1 ≤ s.size ∧ At s (i + (cutF (s.extract i s.size)).2.1) (if (cutF (s.extract i s.size)).1 = 0 then acc else acc ++ [⟨(cutF (s.extract i s.size)).1, s.extract i (i + (cutF (s.extract i s.size)).2.1), i⟩]) := by
  obtain ⟨-, fuel, hf, e⟩ := h
  have hl := cut_len (x := s.extract i s.size) (by rw [sub_size]; omega) he
  rw [sub_size] at hl
  refine ⟨by omega, by omega, by omega, ?_⟩
  cases fuel with
  | zero => omega
  | succ n =>
    refine ⟨n, by omega, ?_⟩
    rw [e]
    conv => lhs; unfold scanA
    rw [if_pos hi, if_pos he]
end Go.Proofs.YtacjkdopbelcpaaDoor
