/- Plain laws of tokens: what a text begins with, how it is cut. No program in sight. Plain laws of tokens: bytes by their places, spans by their ends, numbers reckoned no further than they need be. No program in sight. Plain laws of tokens: texts of tokens joined by blanks are cut into them again. No program in sight. Plain laws of tokens: what is cut are names, words, numbers, signs. No program in sight. Conditions: as each theorem says. -/
import Derived.Lib.AtoiAll
import Derived.Lib.SlicesS
namespace Go.Proofs.YtbpldfmmlgkfnaaGreatDoor
open Go
set_option linter.unusedVariables false

def isLt (b : UInt8) : Bool:=(decide (97 ≤ b.toNat) && decide (b.toNat ≤ 122)) || (decide (65 ≤ b.toNat) && decide (b.toNat ≤ 90)) || decide (b.toNat = 95)
def isDg (b : UInt8) : Bool:=decide (48 ≤ b.toNat) && decide (b.toNat ≤ 57)
def isLd (b : UInt8) : Bool:=isLt b || isDg b
def isNl (b : UInt8) : Bool:=!decide (b.toNat = 10)
/-- How many bytes are so, from the first on. -/
def spanF (f : UInt8 → Bool) : List UInt8 → Nat
 | [] => 0
 | b :: l => if f b = true then spanF f l + 1 else 0
theorem spanF_le (f : UInt8 → Bool) : ∀ l : List UInt8,spanF f l ≤ l.length
 | [] => Nat.le_refl _
 | b :: l => by
  have:=spanF_le f l
  unfold spanF;split <;> simp <;> omega
theorem spanF_all {f : UInt8 → Bool} : ∀ {l : List UInt8} {j : Nat} (h : j < l.length),j < spanF f l → f l[j] = true
 | b :: l,0,_,h => by
  unfold spanF at h
  split at h
  ·simpa
  ·omega
 | b :: l,j + 1,hj,h => by
  unfold spanF at h
  split at h
  ·exact spanF_all (l:=l) (by simpa using hj) (by omega)
  ·omega
theorem spanF_stop {f : UInt8 → Bool} : ∀ {l : List UInt8} (h : spanF f l < l.length),f l[spanF f l] = false
 | b :: l,h => by
  by_cases hb : f b = true
  ·have e : spanF f (b :: l) = spanF f l + 1:=by show (if f b = true then _ else _) = _;rw [if_pos hb]
   have h2 : spanF f l < l.length:=by rw [e] at h;simpa using h
   have h3:=spanF_stop h2
   simp only [e,List.getElem_cons_succ]
   exact h3
  ·have e : spanF f (b :: l) = 0:=by show (if f b = true then _ else _) = _;rw [if_neg hb]
   simp only [e,List.getElem_cons_zero]
   simpa using hb
/-- The span is where what is so ends. -/
theorem spanF_eq {f : UInt8 → Bool} {l : List UInt8} {k : Nat} (hk : k ≤ l.length) (h1 : ∀ j (hj : j < l.length),j < k → f l[j] = true) (h2 : ∀ h : k < l.length,f l[k] = false) : spanF f l = k:=by
 rcases Nat.lt_trichotomy (spanF f l) k with h | h | h
 ·have h3:=spanF_stop (f:=f) (l:=l) (by omega)
  rw [h1 _ (by omega) h] at h3;cases h3
 ·exact h
 ·have h4:=spanF_le f l
  have h3:=spanF_all (f:=f) (l:=l) (j:=k) (by omega) h
  rw [h2 (by omega)] at h3;cases h3
/-- The number that digits spell. -/
def numF (acc : Nat) : List UInt8 → Nat
 | [] => acc
 | b :: l => numF (10 * acc + (b.toNat - 48)) l
theorem numF_ge : ∀ (l : List UInt8) (acc : Nat),acc ≤ numF acc l
 | [],acc => Nat.le_refl _
 | b :: l,acc => by
  have:=numF_ge l (10 * acc + (b.toNat - 48))
  show acc ≤ numF (10 * acc + (b.toNat - 48)) l
  omega
theorem numF_snoc : ∀ (l : List UInt8) (b : UInt8) (acc : Nat),numF acc (l ++ [b]) = 10 * numF acc l + (b.toNat - 48)
 | [],b,acc => rfl
 | c :: l,b,acc => numF_snoc l b _
/-- What the library's Atoi tells of digits. -/
theorem parse_digits : ∀ (l : List UInt8) (acc : Nat),(∀ b ∈ l,isDg b = true) → acc < 18446744073709551616 → Lib.parseUint10 acc l = if numF acc l < 18446744073709551616 then .ok (numF acc l) else .range
 | [],acc,_,ha => by
  show Lib.NumEnd.ok acc = if acc < _ then _ else _
  rw [if_pos ha];rfl
 | b :: l,acc,h,ha => by
  have hb:=h b (by simp)
  unfold isDg at hb
  simp only [Bool.and_eq_true,decide_eq_true_eq] at hb
  have hge:=numF_ge l (10 * acc + (b.toNat - 48))
  have e : numF acc (b :: l) = numF (10 * acc + (b.toNat - 48)) l:=rfl
  unfold Lib.parseUint10
  rw [if_pos hb]
  by_cases h1 : 1844674407370955162 ≤ acc
  ·rw [if_pos h1,if_neg (by rw [e];omega)]
  ·rw [if_neg h1]
   by_cases h2 : 18446744073709551616 ≤ acc * 10 + (b.toNat - 48)
   ·rw [if_pos h2,if_neg (by rw [e];omega)]
   ·rw [if_neg h2,parse_digits l _ (fun c hc => h c (by simp [hc])) (by omega),e,show acc * 10 + (b.toNat - 48) = 10 * acc + (b.toNat - 48) by omega]
theorem atoi_digits {b : UInt8} {l : List UInt8} (h : ∀ c ∈ b :: l,isDg c = true) : Lib.atoiAll (b :: l) = if numF 0 (b :: l) < 9223372036854775808 then .ok (numF 0 (b :: l) : Int) else .range:=by
 have hb:=h b (by simp)
 unfold isDg at hb
 simp only [Bool.and_eq_true,decide_eq_true_eq] at hb
 have h43 : ¬ (b.toNat = 43 ∨ b.toNat = 45):=by omega
 have h45 : ¬ b.toNat = 45:=by omega
 unfold Lib.atoiAll
 simp only [if_neg h43]
 unfold Lib.parseMag
 rw [if_neg (by simp),parse_digits _ 0 h (by omega)]
 by_cases h1 : numF 0 (b :: l) < 18446744073709551616
 ·rw [if_pos h1]
  simp only [h45,not_false_eq_true,true_and,false_and,if_false]
  by_cases h2 : numF 0 (b :: l) < 9223372036854775808
  ·rw [if_pos h2,if_neg (by omega)]
  ·rw [if_neg h2,if_pos (by omega)]
 ·rw [if_neg h1,if_neg (by omega)]

/-- The words. -/
def wordsBA : List ByteArray:=[⟨#[99,108,97,115,115]⟩,⟨#[116,111]⟩,⟨#[115,108,111,116]⟩,⟨#[109,97,105,110]⟩,⟨#[118,97,114]⟩,⟨#[105,102]⟩,⟨#[101,108,115,101]⟩,⟨#[119,104,105,108,101]⟩,⟨#[114,101,116,117,114,110]⟩,⟨#[112,114,105,110,116]⟩,⟨#[102,111,114,107]⟩,⟨#[119,97,105,116]⟩,⟨#[115,105,103,110,97,108]⟩,⟨#[115,119,97,112]⟩,⟨#[110,101,119]⟩,⟨#[103,97,116,101]⟩,⟨#[110,105,108]⟩,⟨#[115,101,108,102]⟩]
def wordB (x : ByteArray) : Bool:=Lib.containsS wordsBA x
/-- The signs of one byte. -/
def signsB : List UInt8:=[43,45,42,60,61,33,46,44,59,58,40,41,123,125]
def signN (b : UInt8) (c : Option UInt8) : Nat:=if b = 61 ∧ c = some 61 then 2 else if signsB.contains b = true then 1 else 0
/-- What a text that is not empty begins with: its kind (0: what stands between), its length, what is wrong. -/
def cutF (x : ByteArray) : Int × Nat × Int :=
 match x.data.toList with
 | [] => (0,0,0)
 | b :: r =>
  if b = 32 ∨ b = 9 ∨ b = 10 then (0,1,0)
  else if b = 35 then (0,spanF isNl (b :: r),0)
  else if isLt b = true then (if wordB (x.extract 0 (spanF isLd (b :: r))) = true then 3 else 1,spanF isLd (b :: r),0)
  else if isDg b = true then
   (if 1073741823 < numF 0 ((b :: r).take (spanF isDg (b :: r))) ∨ (1 < spanF isDg (b :: r) ∧ b = 48) ∨ (((b :: r)[spanF isDg (b :: r)]?).map isLt = some true) then (0,0,2) else (2,spanF isDg (b :: r),0))
  else if signN b r.head? = 0 then (0,0,11) else (4,signN b r.head?,0)
/-- A token. -/
structure Tok where
 kind : Int
 text : ByteArray
 at_ : Nat
/-- A text cut, from a place on, behind what was cut: its tokens, or what is wrong first and where. -/
def scanA (s : ByteArray) : Nat → Nat → List Tok → List Tok × Int × Nat
 | 0,i,acc => (acc,0,0)
 | fuel + 1,i,acc =>
  if i < s.size then
   if (cutF (s.extract i s.size)).2.2 = 0 then
    scanA s fuel (i + (cutF (s.extract i s.size)).2.1) (if (cutF (s.extract i s.size)).1 = 0 then acc else acc ++ [⟨(cutF (s.extract i s.size)).1,s.extract i (i + (cutF (s.extract i s.size)).2.1),i⟩])
   else ([],(cutF (s.extract i s.size)).2.2,i)
  else (acc,0,0)
def scanF (s : ByteArray) : List Tok × Int × Nat:=if 4000 < s.size then ([],1,0) else scanA s (s.size + 1) 0 []
/-- Where a cut stands: what is still to be cut gives the whole. -/
def At (s : ByteArray) (i : Nat) (acc : List Tok) : Prop:=i ≤ s.size ∧ ∃ fuel,s.size - i < fuel ∧ scanF s = scanA s fuel i acc
theorem cut_cons {x : ByteArray} (h : 0 < x.size) : ∃ b r,x.data.toList = b :: r:=by
 cases e : x.data.toList with
 | nil =>
  have : x.data.toList.length = x.size:=Array.length_toList
  rw [e] at this;simp at this;omega
 | cons b r => exact ⟨b,r,rfl⟩
theorem span_pos {f : UInt8 → Bool} {b : UInt8} {r : List UInt8} (h : f b = true) : 0 < spanF f (b :: r):=by
 show 0 < (if f b = true then spanF f r + 1 else 0)
 rw [if_pos h];omega
theorem signN_le {b : UInt8} {r : List UInt8} : signN b r.head? ≤ (b :: r).length:=by
 unfold signN
 split
 ·rename_i h
  cases r with
  | nil => simp at h
  | cons c r => simp
 ·split <;> simp
theorem cut_len {x : ByteArray} (h : 0 < x.size) (h0 : (cutF x).2.2 = 0) : 0 < (cutF x).2.1 ∧ (cutF x).2.1 ≤ x.size:=by
 obtain ⟨b,r,e⟩:=cut_cons h
 have hl : (b :: r).length = x.size:=by rw [← e];exact Array.length_toList
 unfold cutF at h0 ⊢
 rw [e] at h0 ⊢
 dsimp only at h0 ⊢
 by_cases h1 : b = 32 ∨ b = 9 ∨ b = 10
 ·rw [if_pos h1];simp;omega
 rw [if_neg h1] at h0 ⊢
 by_cases h2 : b = 35
 ·rw [if_pos h2]
  subst h2
  have h3:=spanF_le isNl ((35 : UInt8) :: r)
  have h4:=span_pos (f:=isNl) (b:=35) (r:=r) (by decide)
  simp only;omega
 rw [if_neg h2] at h0 ⊢
 by_cases h3 : isLt b = true
 ·rw [if_pos h3]
  have h4:=spanF_le isLd (b :: r)
  have h5:=span_pos (f:=isLd) (b:=b) (r:=r) (by unfold isLd;rw [h3];rfl)
  simp only;omega
 rw [if_neg h3] at h0 ⊢
 by_cases h4 : isDg b = true
 ·rw [if_pos h4] at h0 ⊢
  have h5:=spanF_le isDg (b :: r)
  have h6:=span_pos (f:=isDg) (b:=b) (r:=r) h4
  split at h0
  ·simp at h0
  ·rename_i hn
   rw [if_neg hn]
   simp only;omega
 rw [if_neg h4] at h0 ⊢
 have h5:=signN_le (b:=b) (r:=r)
 by_cases h6 : signN b r.head? = 0
 ·rw [if_pos h6] at h0;simp at h0
 ·rw [if_neg h6]
  simp only;omega
theorem sub_size (s : ByteArray) (i : Nat) : (s.extract i s.size).size = s.size - i:=by
 have : (s.extract i s.size).data.size = s.size - i:=by
  rw [ByteArray.data_extract,Array.size_extract];show min s.size s.size - i = _;omega
 exact this
theorem At.start {s : ByteArray} (h : s.size ≤ 4000) : At s 0 []:=⟨by omega,s.size + 1,by omega,by unfold scanF;rw [if_neg (by omega)]⟩
theorem At.big {s : ByteArray} (h : 4000 < s.size) : scanF s = ([],1,0):=by unfold scanF;rw [if_pos h]
theorem At.stop {s : ByteArray} {i : Nat} {acc : List Tok} (h : At s i acc) (hi : ¬ i < s.size) : scanF s = (acc,0,0):=by
 obtain ⟨-,fuel,hf,e⟩:=h
 rw [e]
 cases fuel with
 | zero => rfl
 | succ n => unfold scanA;rw [if_neg hi]
theorem At.bad {s : ByteArray} {i : Nat} {acc : List Tok} (h : At s i acc) (hi : i < s.size) (he : (cutF (s.extract i s.size)).2.2 ≠ 0) : scanF s = ([],(cutF (s.extract i s.size)).2.2,i):=by
 obtain ⟨-,fuel,hf,e⟩:=h
 rw [e]
 cases fuel with
 | zero => omega
 | succ n => unfold scanA;rw [if_pos hi,if_neg he]
theorem At.next {s : ByteArray} {i : Nat} {acc : List Tok} (h : At s i acc) (hi : i < s.size) (he : (cutF (s.extract i s.size)).2.2 = 0) :
  i < i + (cutF (s.extract i s.size)).2.1 ∧ i + (cutF (s.extract i s.size)).2.1 ≤ s.size ∧ At s (i + (cutF (s.extract i s.size)).2.1) (if (cutF (s.extract i s.size)).1 = 0 then acc else acc ++ [⟨(cutF (s.extract i s.size)).1,s.extract i (i + (cutF (s.extract i s.size)).2.1),i⟩]):=by
 obtain ⟨-,fuel,hf,e⟩:=h
 have hl:=cut_len (x:=s.extract i s.size) (by rw [sub_size];omega) he
 rw [sub_size] at hl
 refine ⟨by omega,by omega,by omega,?_⟩
 cases fuel with
 | zero => omega
 | succ n =>
  refine ⟨n,by omega,?_⟩
  rw [e]
  conv => lhs;unfold scanA
  rw [if_pos hi,if_pos he]
end Go.Proofs.YtbpldfmmlgkfnaaGreatDoor

namespace Go.Proofs.YtbpldfmmlgkfnaaGreatDoor
open Go
set_option linter.unusedVariables false

/-- The byte at a place. -/
def bt (s : ByteArray) (j : Nat) : UInt8:=s.data.toList.getD j 0
theorem size_len (s : ByteArray) : s.data.toList.length = s.size:=Array.length_toList
theorem idx_bt (s : ByteArray) (j : Nat) (h : j < s.size) : s[j]'h = bt s j:=by
 unfold bt
 have h2 : j < s.data.toList.length:=by rw [size_len];exact h
 rw [List.getD_eq_getElem?_getD,List.getElem?_eq_getElem h2,Option.getD_some,Array.getElem_toList]
 rfl
theorem bt_list (s : ByteArray) {j : Nat} (h : j < s.data.toList.length) : s.data.toList[j] = bt s j:=by
 unfold bt;rw [List.getD_eq_getElem?_getD,List.getElem?_eq_getElem h];rfl
theorem ext_list (s : ByteArray) (i k : Nat) : (s.extract i k).data.toList = (s.data.toList.drop i).take (k - i):=by
 rw [ByteArray.data_extract,Array.toList_extract]
theorem ext_bt (s : ByteArray) {i k j : Nat} (hj : i + j < k) (hk : k ≤ s.size) : bt (s.extract i k) j = bt s (i + j):=by
 unfold bt
 rw [ext_list,List.getD_eq_getElem?_getD,List.getD_eq_getElem?_getD,List.getElem?_take,if_pos (by omega),List.getElem?_drop]
theorem ext_size (s : ByteArray) {i k : Nat} (hk : k ≤ s.size) : (s.extract i k).size = k - i:=by
 rw [← size_len,ext_list,List.length_take,List.length_drop,size_len];omega
theorem ext_ext (s : ByteArray) {i n : Nat} (h : i + n ≤ s.size) : (s.extract i s.size).extract 0 n = s.extract i (i + n):=by
 apply ByteArray.ext
 apply Array.toList_inj.1
 rw [ext_list,ext_list,ext_list,List.drop_zero,List.take_take]
 congr 1
 omega
/-- The span of what is so, by its end. -/
theorem span_at {s : ByteArray} {f : UInt8 → Bool} {k : Nat} (hk : k ≤ s.size) (h1 : ∀ j,j < k → f (bt s j) = true) (h2 : k < s.size → f (bt s k) = false) : spanF f s.data.toList = k :=
 spanF_eq (by rw [size_len];exact hk) (fun j hj hjk => by rw [bt_list];exact h1 j hjk) (fun h => by rw [bt_list];exact h2 (by rw [size_len] at h;exact h))
/-- The span of what is so behind a place, by its end. -/
theorem span_off {s : ByteArray} {f : UInt8 → Bool} {i k : Nat} (hik : i ≤ k) (hk : k ≤ s.size) (h1 : ∀ j,i ≤ j → j < k → f (bt s j) = true) (h2 : k < s.size → f (bt s k) = false) : spanF f (s.extract i s.size).data.toList = k - i:=by
 refine span_at (s:=s.extract i s.size) (by rw [sub_size];omega) (fun j hj => ?_) (fun h => ?_)
 ·rw [ext_bt (s:=s) (i:=i) (k:=s.size) (j:=j) (by omega) (Nat.le_refl _)];exact h1 _ (by omega) (by omega)
 ·rw [sub_size] at h
  rw [ext_bt (s:=s) (i:=i) (k:=s.size) (j:=k - i) (by omega) (Nat.le_refl _),show i + (k - i) = k by omega];exact h2 (by omega)
/-- The number that digits spell, reckoned no further than it need be. -/
def capF (acc : Nat) : List UInt8 → Nat
 | [] => acc
 | b :: l => capF (if acc ≤ 1073741823 then 10 * acc + (b.toNat - 48) else acc) l
theorem capF_snoc : ∀ (l : List UInt8) (b : UInt8) (acc : Nat),capF acc (l ++ [b]) = if capF acc l ≤ 1073741823 then 10 * capF acc l + (b.toNat - 48) else capF acc l
 | [],b,acc => rfl
 | c :: l,b,acc => capF_snoc l b _
theorem capF_big : ∀ (l : List UInt8) (acc : Nat),1073741823 < acc → capF acc l = acc
 | [],acc,_ => rfl
 | b :: l,acc,h => by
  show capF (if acc ≤ 1073741823 then _ else acc) l = acc
  rw [if_neg (by omega)]
  exact capF_big l acc h
theorem cap_iff : ∀ (l : List UInt8) (acc : Nat),1073741823 < capF acc l ↔ 1073741823 < numF acc l
 | [],acc => Iff.rfl
 | b :: l,acc => by
  by_cases h : acc ≤ 1073741823
  ·show 1073741823 < capF (if acc ≤ 1073741823 then _ else acc) l ↔ 1073741823 < numF (10 * acc + (b.toNat - 48)) l
   rw [if_pos h]
   exact cap_iff l _
  ·have h1:=capF_big (b :: l) acc (by omega)
   have h2:=numF_ge (b :: l) acc
   rw [h1];omega
theorem capF_le : ∀ (l : List UInt8) (acc : Nat),acc ≤ 10737418245 → (∀ b ∈ l,isDg b = true) → capF acc l ≤ 10737418245
 | [],acc,h,_ => h
 | b :: l,acc,h,hl => by
  have hb:=hl b (by simp)
  unfold isDg at hb
  simp only [Bool.and_eq_true,decide_eq_true_eq] at hb
  refine capF_le l _ ?_ (fun c hc => hl c (by simp [hc]))
  split <;> omega

theorem take_bt {x : ByteArray} {k : Nat} (h : k < x.size) : x.data.toList.take (k + 1) = x.data.toList.take k ++ [bt x k]:=by
 have h2 : k < x.data.toList.length:=by rw [size_len];exact h
 rw [List.take_succ_eq_append_getElem h2,bt_list]
/-! What a text begins with, case by case. -/
section
variable {x : ByteArray} (h : 0 < x.size)
include h
theorem cut_eq : cutF x = if bt x 0 = 32 ∨ bt x 0 = 9 ∨ bt x 0 = 10 then (0,1,0) else if bt x 0 = 35 then (0,spanF isNl x.data.toList,0)
  else if isLt (bt x 0) = true then (if wordB (x.extract 0 (spanF isLd x.data.toList)) = true then 3 else 1,spanF isLd x.data.toList,0)
  else if isDg (bt x 0) = true then
   (if 1073741823 < numF 0 (x.data.toList.take (spanF isDg x.data.toList)) ∨ (1 < spanF isDg x.data.toList ∧ bt x 0 = 48) ∨ (spanF isDg x.data.toList < x.size ∧ isLt (bt x (spanF isDg x.data.toList)) = true) then (0,0,2) else (2,spanF isDg x.data.toList,0))
  else if signN (bt x 0) (if 1 < x.size then some (bt x 1) else none) = 0 then (0,0,11) else (4,signN (bt x 0) (if 1 < x.size then some (bt x 1) else none),0):=by
 obtain ⟨b,r,e⟩:=cut_cons h
 have hb : bt x 0 = b:=by unfold bt;rw [e];rfl
 have hz : (b :: r).length = x.size:=by rw [← e];exact size_len x
 have hg : ∀ k,((b :: r)[k]?.map isLt = some true) = (k < x.size ∧ isLt (bt x k) = true):=fun k => by
  unfold bt;rw [e,List.getD_eq_getElem?_getD]
  by_cases hk : k < (b :: r).length
  ·rw [List.getElem?_eq_getElem hk]
   have : k < x.size:=by rw [← hz];exact hk
   simp [this]
  ·rw [List.getElem?_eq_none (by omega)]
   have : ¬ k < x.size:=by rw [← hz];exact hk
   simp [this]
 have hh : r.head? = if 1 < x.size then some (bt x 1) else none:=by
  unfold bt;rw [e]
  cases r with
  | nil => rw [if_neg (by rw [← hz];simp)];rfl
  | cons c r => rw [if_pos (by rw [← hz];simp)];rfl
 rw [hb]
 conv => lhs;unfold cutF
 rw [e]
 dsimp only
 rw [hh]
 simp only [hg]
end
end Go.Proofs.YtbpldfmmlgkfnaaGreatDoor

namespace Go.Proofs.YtbpldfmmlgkfnaaGreatDoor
open Go
set_option linter.unusedVariables false

theorem app_list (a b : ByteArray) : (a ++ b).data.toList = a.data.toList ++ b.data.toList:=by rw [ByteArray.data_append,Array.toList_append]
theorem app_size (a b : ByteArray) : (a ++ b).size = a.size + b.size:=by rw [← size_len,app_list,List.length_append,size_len,size_len]
theorem app_bt_left {a b : ByteArray} {j : Nat} (h : j < a.size) : bt (a ++ b) j = bt a j:=by
 unfold bt
 rw [app_list,List.getD_eq_getElem?_getD,List.getD_eq_getElem?_getD,List.getElem?_append_left (by rw [size_len];exact h)]
theorem app_bt_right {a b : ByteArray} {j : Nat} (h : a.size ≤ j) : bt (a ++ b) j = bt b (j - a.size):=by
 unfold bt
 rw [app_list,List.getD_eq_getElem?_getD,List.getD_eq_getElem?_getD,List.getElem?_append_right (by rw [size_len];exact h),size_len]
theorem app_ext_left (a b : ByteArray) : (a ++ b).extract 0 a.size = a:=by
 apply ByteArray.ext
 apply Array.toList_inj.1
 rw [ext_list,app_list,List.drop_zero,Nat.sub_zero,← size_len,List.take_left']
 rfl
theorem app_ext_right (a b : ByteArray) : (a ++ b).extract a.size (a ++ b).size = b:=by
 apply ByteArray.ext
 apply Array.toList_inj.1
 rw [ext_list,app_list,app_size,← size_len a,List.drop_left',show a.data.toList.length + b.size - a.data.toList.length = b.data.toList.length by rw [size_len b];omega,List.take_length]
 rfl
/-- What comes behind a token. -/
def Sep (r : ByteArray) : Prop:=r.size = 0 ∨ bt r 0 = 32 ∨ bt r 0 = 10
theorem span_app {f : UInt8 → Bool} {t r : ByteArray} (ht : ∀ j,j < t.size → f (bt t j) = true) (hs : Sep r) (h32 : f 32 = false) (h10 : f 10 = false) : spanF f (t ++ r).data.toList = t.size:=by
 refine span_at (by rw [app_size];omega) (fun j hj => by rw [app_bt_left hj];exact ht j hj) (fun h => ?_)
 rw [app_bt_right (Nat.le_refl _),Nat.sub_self]
 rw [app_size] at h
 rcases hs with h1 | h1 | h1
 ·omega
 ·rw [h1];exact h32
 ·rw [h1];exact h10
/-- A token whose text is cut as that token, whatever follows behind a blank. -/
structure Good (k : Int) (t : ByteArray) : Prop where
 pos : 0 < t.size
 kind : k ≠ 0
 cut : ∀ r,Sep r → cutF (t ++ r) = (k,t.size,0)
theorem lt_first {b : UInt8} (h : isLt b = true) : ¬ (b = 32 ∨ b = 9 ∨ b = 10) ∧ ¬ b = 35:=by
 constructor
 ·rintro (rfl | rfl | rfl) <;> exact absurd h (by decide)
 ·rintro rfl;exact absurd h (by decide)
theorem dg_first {b : UInt8} (h : isDg b = true) : ¬ (b = 32 ∨ b = 9 ∨ b = 10) ∧ ¬ b = 35 ∧ ¬ isLt b = true:=by
 refine ⟨?_,?_,?_⟩
 ·rintro (rfl | rfl | rfl) <;> exact absurd h (by decide)
 ·rintro rfl;exact absurd h (by decide)
 ·unfold isDg at h;unfold isLt
  simp only [Bool.and_eq_true,decide_eq_true_eq] at h
  simp only [Bool.or_eq_true,Bool.and_eq_true,decide_eq_true_eq]
  omega
/-- Names and words. -/
theorem good_letters {t : ByteArray} (h0 : 0 < t.size) (h1 : isLt (bt t 0) = true) (h2 : ∀ j,j < t.size → isLd (bt t j) = true) : Good (if wordB t = true then 3 else 1) t:=by
 refine ⟨h0,by split <;> decide,fun r hr => ?_⟩
 have hz : 0 < (t ++ r).size:=by rw [app_size];omega
 obtain ⟨g1,g2⟩:=lt_first h1
 rw [cut_eq hz,app_bt_left h0,if_neg g1,if_neg g2,if_pos h1,span_app h2 hr (by decide) (by decide),app_ext_left]
/-- Numbers. -/
theorem good_digits {t : ByteArray} (h0 : 0 < t.size) (h2 : ∀ j,j < t.size → isDg (bt t j) = true) (h3 : numF 0 t.data.toList ≤ 1073741823) (h4 : 1 < t.size → bt t 0 ≠ 48) : Good 2 t:=by
 refine ⟨h0,by decide,fun r hr => ?_⟩
 have hz : 0 < (t ++ r).size:=by rw [app_size];omega
 have h1:=h2 0 h0
 obtain ⟨g1,g2,g3⟩:=dg_first h1
 have hsp:=span_app h2 hr (by decide) (by decide)
 have htk : (t ++ r).data.toList.take t.size = t.data.toList:=by rw [app_list,← size_len,List.take_left'];rfl
 rw [cut_eq hz,app_bt_left h0,if_neg g1,if_neg g2,if_neg g3,if_pos h1,hsp,htk,if_neg]
 rintro (h | ⟨h,h5⟩ | ⟨h,h5⟩)
 ·omega
 ·exact h4 h h5
 ·rw [app_bt_right (Nat.le_refl _),Nat.sub_self] at h5
  rw [app_size] at h
  rcases hr with h6 | h6 | h6
  ·omega
  ·rw [h6] at h5;exact absurd h5 (by decide)
  ·rw [h6] at h5;exact absurd h5 (by decide)
/-- Signs of one byte, and the one of two. -/
theorem sign_first {b : UInt8} (h : signsB.contains b = true) : ¬ (b = 32 ∨ b = 9 ∨ b = 10) ∧ ¬ b = 35 ∧ ¬ isLt b = true ∧ ¬ isDg b = true:=by
 have : ∀ b ∈ signsB,¬ (b = 32 ∨ b = 9 ∨ b = 10) ∧ ¬ b = 35 ∧ ¬ isLt b = true ∧ ¬ isDg b = true:=by decide
 exact this b (by simpa using h)
theorem good_sign {t : ByteArray} (h0 : t.size = 1) (h1 : signsB.contains (bt t 0) = true) : Good 4 t:=by
 refine ⟨by omega,by decide,fun r hr => ?_⟩
 have hz : 0 < (t ++ r).size:=by rw [app_size];omega
 obtain ⟨g1,g2,g3,g4⟩:=sign_first h1
 have hn : signN (bt t 0) (if 1 < (t ++ r).size then some (bt (t ++ r) 1) else none) = 1:=by
  unfold signN
  rw [if_neg,if_pos h1]
  rintro ⟨-,h⟩
  split at h
  ·rename_i h2
   rw [app_bt_right (by omega),h0,Nat.sub_self] at h
   rw [app_size] at h2
   rcases hr with h6 | h6 | h6
   ·omega
   ·rw [h6] at h;exact absurd h (by decide)
   ·rw [h6] at h;exact absurd h (by decide)
  ·cases h
 rw [cut_eq hz,app_bt_left (by omega),if_neg g1,if_neg g2,if_neg g3,if_neg g4,hn,if_neg (by decide),h0]
theorem good_same {t : ByteArray} (h0 : t.size = 2) (h1 : bt t 0 = 61) (h2 : bt t 1 = 61) : Good 4 t:=by
 refine ⟨by omega,by decide,fun r hr => ?_⟩
 have hz : 0 < (t ++ r).size:=by rw [app_size];omega
 have hn : signN (bt t 0) (if 1 < (t ++ r).size then some (bt (t ++ r) 1) else none) = 2:=by
  unfold signN
  rw [if_pos]
  refine ⟨h1,?_⟩
  rw [if_pos (by rw [app_size];omega),app_bt_left (by omega),h2]
 rw [cut_eq hz,app_bt_left (by omega),hn,h1]
 rw [if_neg (by decide),if_neg (by decide),if_neg (by decide),if_neg (by decide),if_neg (by decide),h0]

def blank : ByteArray:=⟨#[32]⟩
def line : ByteArray:=⟨#[10]⟩
/-- Texts joined, each behind a blank but the first; a line's end behind all. -/
def joinT : List ByteArray → ByteArray
 | [] => line
 | t :: l => blank ++ (t ++ joinT l)
theorem join_sep : ∀ l : List ByteArray,Sep (joinT l)
 | [] => .inr (.inr rfl)
 | t :: l => by
  right;left
  show bt (blank ++ (t ++ joinT l)) 0 = 32
  rw [app_bt_left (by decide)];rfl
/-- A place in a text behind which the rest stands. -/
theorem at_step {s p r : ByteArray} {k : Int} {t : ByteArray} {acc : List Tok} (hs : s = p ++ (t ++ r)) (hg : Good k t) (hr : Sep r) (h : At s p.size acc) : At s (p ++ t).size (acc ++ [⟨k,t,p.size⟩]):=by
 have he : s.extract p.size s.size = t ++ r:=by subst hs;exact app_ext_right p (t ++ r)
 have hc:=hg.cut r hr
 have hpos:=hg.pos
 have hz : s.size = p.size + (t.size + r.size):=by subst hs;rw [app_size,app_size]
 have hx:=(h.next (by omega) (by rw [he,hc])).2.2
 rw [he,hc] at hx
 dsimp only at hx
 rw [if_neg hg.kind] at hx
 have ht : s.extract p.size (p.size + t.size) = t:=by
  rw [← ext_ext (s:=s) (i:=p.size) (n:=t.size) (by omega),he];exact app_ext_left t r
 rw [ht] at hx
 rw [app_size];exact hx
theorem at_gap {s p r : ByteArray} {acc : List Tok} {b : ByteArray} (hs : s = p ++ (b ++ r)) (hb : b = blank ∨ b = line) (h : At s p.size acc) : At s (p ++ b).size acc:=by
 have he : s.extract p.size s.size = b ++ r:=by subst hs;exact app_ext_right p (b ++ r)
 have h1 : b.size = 1:=by rcases hb with rfl | rfl <;> rfl
 have h2 : bt b 0 = 32 ∨ bt b 0 = 10:=by rcases hb with rfl | rfl;exact .inl rfl;exact .inr rfl
 have hz : s.size = p.size + (b.size + r.size):=by subst hs;rw [app_size,app_size]
 have hc : cutF (b ++ r) = (0,1,0):=by
  rw [cut_eq (by rw [app_size];omega),app_bt_left (by omega),if_pos]
  rcases h2 with h | h
  ·exact .inl h
  ·exact .inr (.inr h)
 have hx:=(h.next (by omega) (by rw [he,hc])).2.2
 rw [he,hc] at hx
 dsimp only at hx
 rw [if_pos rfl] at hx
 rw [app_size,h1];exact hx
theorem app_assoc (a b c : ByteArray) : a ++ b ++ c = a ++ (b ++ c):=by
 apply ByteArray.ext
 apply Array.toList_inj.1
 rw [app_list,app_list,app_list,app_list,List.append_assoc]
def likeT (a b : List Tok) : Prop:=a.map (fun t => (t.kind,t.text)) = b.map (fun t => (t.kind,t.text))
theorem at_all : ∀ (l : List Tok) (s p : ByteArray) (acc : List Tok),(∀ t ∈ l,Good t.kind t.text) → s = p ++ joinT (l.map Tok.text) → At s p.size acc → ∃ m,scanF s = (acc ++ m,0,0) ∧ likeT m l
 | [],s,p,acc,_,hs,h => by
  have hs2 : s = p ++ (line ++ ByteArray.empty):=by rw [hs];exact congrArg (p ++ ·) (by rfl)
  have h2:=at_gap hs2 (.inr rfl) h
  refine ⟨[],?_,rfl⟩
  rw [List.append_nil]
  refine h2.stop ?_
  rw [hs];exact Nat.lt_irrefl _
 | t :: l,s,p,acc,hg,hs,h => by
  have hs1 : s = p ++ (blank ++ (t.text ++ joinT (l.map Tok.text))):=hs
  have h2:=at_gap hs1 (.inl rfl) h
  have hs2 : s = (p ++ blank) ++ (t.text ++ joinT (l.map Tok.text)):=by rw [hs1,app_assoc]
  have h3:=at_step hs2 (hg t (by simp)) (join_sep _) h2
  have hs3 : s = ((p ++ blank) ++ t.text) ++ joinT (l.map Tok.text):=by rw [hs2,app_assoc (p ++ blank)]
  obtain ⟨m,e,hm⟩:=at_all l s _ _ (fun u hu => hg u (by simp [hu])) hs3 h3
  refine ⟨⟨t.kind,t.text,(p ++ blank).size⟩ :: m,?_,?_⟩
  ·rw [e,List.append_assoc];rfl
  ·unfold likeT at hm ⊢
   simp only [List.map_cons,hm]
/-- What is joined is cut into what it was joined of. -/
theorem scan_join {t : Tok} {l : List Tok} (hg : ∀ u ∈ t :: l,Good u.kind u.text) (hz : (t.text ++ joinT (l.map Tok.text)).size ≤ 4000) : ∃ m,scanF (t.text ++ joinT (l.map Tok.text)) = (m,0,0) ∧ likeT m (t :: l):=by
 have h0 : At (t.text ++ joinT (l.map Tok.text)) (ByteArray.empty).size []:=At.start hz
 have h1:=at_step (p:=ByteArray.empty) (t:=t.text) (r:=joinT (l.map Tok.text)) (k:=t.kind) (by rw [show ByteArray.empty ++ (t.text ++ joinT (l.map Tok.text)) = t.text ++ joinT (l.map Tok.text) from by apply ByteArray.ext;apply Array.toList_inj.1;rw [app_list];rfl]) (hg t (by simp)) (join_sep _) h0
 have hs : t.text ++ joinT (l.map Tok.text) = (ByteArray.empty ++ t.text) ++ joinT (l.map Tok.text):=by
  apply ByteArray.ext;apply Array.toList_inj.1;rw [app_list,app_list,app_list];rfl
 obtain ⟨m,e,hm⟩:=at_all l _ _ _ (fun u hu => hg u (by simp [hu])) hs h1
 refine ⟨⟨t.kind,t.text,0⟩ :: m,?_,?_⟩
 ·rw [e];rfl
 ·unfold likeT at hm ⊢
  simp only [List.map_cons,hm]
end Go.Proofs.YtbpldfmmlgkfnaaGreatDoor

namespace Go.Proofs.YtbpldfmmlgkfnaaGreatDoor
open Go
set_option linter.unusedVariables false

/-- Letters, and digits behind the first. -/
structure Letters (t : ByteArray) : Prop where
 pos : 0 < t.size
 first : isLt (bt t 0) = true
 all : ∀ j,j < t.size → isLd (bt t j) = true
inductive OkT : Int → ByteArray → Prop where
 | word (t : ByteArray) : Letters t → wordB t = true → OkT 3 t
 | name (t : ByteArray) : Letters t → wordB t = false → OkT 1 t
 | num (t : ByteArray) : 0 < t.size → (∀ j,j < t.size → isDg (bt t j) = true) → numF 0 t.data.toList ≤ 1073741823 → (1 < t.size → bt t 0 ≠ 48) → OkT 2 t
 | sign (t : ByteArray) : t.size = 1 → signsB.contains (bt t 0) = true → OkT 4 t
 | same (t : ByteArray) : t.size = 2 → bt t 0 = 61 → bt t 1 = 61 → OkT 4 t
theorem OkT.good {k : Int} {t : ByteArray} (h : OkT k t) : Good k t:=by
 cases h with
 | word _ hl hw =>
  have:=good_letters hl.pos hl.first hl.all
  rw [hw] at this;exact this
 | name _ hl hw =>
  have:=good_letters hl.pos hl.first hl.all
  rw [hw] at this;exact this
 | num _ h0 h1 h2 h3 => exact good_digits h0 h1 h2 h3
 | sign _ h0 h1 => exact good_sign h0 h1
 | same _ h0 h1 h2 => exact good_same h0 h1 h2
theorem span_bt {x : ByteArray} {f : UInt8 → Bool} {j : Nat} (h : j < spanF f x.data.toList) : f (bt x j) = true:=by
 have hl:=spanF_le f x.data.toList
 have hj : j < x.data.toList.length:=by omega
 rw [← bt_list x hj]
 exact spanF_all hj h
theorem ext0_bt {x : ByteArray} {n j : Nat} (hn : n ≤ x.size) (hj : j < n) : bt (x.extract 0 n) j = bt x j:=by
 have:=ext_bt (s:=x) (i:=0) (k:=n) (j:=j) (by omega) hn
 rw [this,Nat.zero_add]
theorem ext0_size {x : ByteArray} {n : Nat} (hn : n ≤ x.size) : (x.extract 0 n).size = n:=by rw [ext_size x hn];omega
theorem cut_ok {x : ByteArray} (h : 0 < x.size) (h0 : (cutF x).2.2 = 0) (h1 : (cutF x).1 ≠ 0) : OkT (cutF x).1 (x.extract 0 (cutF x).2.1):=by
 have hlen:=cut_len h h0
 rw [cut_eq h] at h0 h1 hlen ⊢
 by_cases c1 : bt x 0 = 32 ∨ bt x 0 = 9 ∨ bt x 0 = 10
 ·rw [if_pos c1] at h1;exact absurd rfl h1
 rw [if_neg c1] at h0 h1 hlen ⊢
 by_cases c2 : bt x 0 = 35
 ·rw [if_pos c2] at h1;exact absurd rfl h1
 rw [if_neg c2] at h0 h1 hlen ⊢
 by_cases c3 : isLt (bt x 0) = true
 ·rw [if_pos c3] at h0 h1 hlen ⊢
  have hn : spanF isLd x.data.toList ≤ x.size:=hlen.2
  have hp : 0 < spanF isLd x.data.toList:=hlen.1
  have hL : Letters (x.extract 0 (spanF isLd x.data.toList)):=⟨by rw [ext0_size hn];exact hp,by rw [ext0_bt hn hp];exact c3,fun j hj => by
   rw [ext0_size hn] at hj
   rw [ext0_bt hn hj];exact span_bt hj⟩
  dsimp only
  split
  ·rename_i hw;exact .word _ hL hw
  ·rename_i hw;exact .name _ hL (by simpa using hw)
 rw [if_neg c3] at h0 h1 hlen ⊢
 by_cases c4 : isDg (bt x 0) = true
 ·rw [if_pos c4] at h0 h1 hlen ⊢
  split at h1
  ·exact absurd rfl h1
  ·rename_i hc
   rw [if_neg hc] at hlen ⊢
   have hn : spanF isDg x.data.toList ≤ x.size:=hlen.2
   have hp : 0 < spanF isDg x.data.toList:=hlen.1
   have hl : (x.extract 0 (spanF isDg x.data.toList)).data.toList = x.data.toList.take (spanF isDg x.data.toList):=by rw [ext_list,List.drop_zero,Nat.sub_zero]
   refine .num _ (by dsimp only;rw [ext0_size hn];exact hp) (fun j hj => ?_) ?_ (fun hj => ?_)
   ·dsimp only at hj ⊢
    rw [ext0_size hn] at hj
    rw [ext0_bt hn hj];exact span_bt hj
   ·dsimp only
    rw [hl]
    exact Nat.le_of_not_lt fun h => hc (.inl h)
   ·dsimp only at hj ⊢
    rw [ext0_size hn] at hj
    rw [ext0_bt hn hp]
    exact fun h => hc (.inr (.inl ⟨hj,h⟩))
 rw [if_neg c4] at h0 h1 hlen ⊢
 generalize hc : (if 1 < x.size then some (bt x 1) else none) = c at *
 split at h1
 ·exact absurd rfl h1
 ·rename_i hs
  rw [if_neg hs] at hlen ⊢
  dsimp only at hlen ⊢
  unfold signN at hs hlen ⊢
  by_cases h2 : bt x 0 = 61 ∧ c = some 61
  ·rw [if_pos h2] at hlen ⊢
   obtain ⟨h3,h4⟩:=h2
   have hx : 1 < x.size:=by
    by_cases hx : 1 < x.size
    ·exact hx
    ·rw [if_neg hx] at hc;rw [← hc] at h4;cases h4
   rw [if_pos hx] at hc
   have hb : bt x 1 = 61:=by rw [← hc] at h4;exact Option.some.inj h4
   exact .same _ (ext0_size (by omega)) (by rw [ext0_bt (by omega) (by omega)];exact h3) (by rw [ext0_bt (by omega) (by omega)];exact hb)
  ·rw [if_neg h2] at hs hlen ⊢
   split at hs
   ·rename_i hb
    rw [if_pos hb] at hlen ⊢
    exact .sign _ (ext0_size (by omega)) (by rw [ext0_bt (by omega) (by omega)];exact hb)
   ·exact absurd rfl hs
theorem scanA_ok (s : ByteArray) : ∀ (fuel i : Nat) (acc : List Tok),i ≤ s.size → (∀ t ∈ acc,OkT t.kind t.text) → ∀ t ∈ (scanA s fuel i acc).1,OkT t.kind t.text
 | 0,i,acc,_,h => h
 | fuel + 1,i,acc,hi,h => by
  unfold scanA
  by_cases h1 : i < s.size
  ·rw [if_pos h1]
   by_cases h2 : (cutF (s.extract i s.size)).2.2 = 0
   ·rw [if_pos h2]
    have hz : 0 < (s.extract i s.size).size:=by rw [sub_size];omega
    have hl:=cut_len hz h2
    rw [sub_size] at hl
    refine scanA_ok s fuel _ _ (by omega) ?_
    split
    ·exact h
    ·rename_i h3
     intro t ht
     rcases List.mem_append.1 ht with ht | ht
     ·exact h t ht
     ·rw [List.mem_singleton] at ht
      subst ht
      dsimp only
      rw [← ext_ext (s:=s) (i:=i) (n:=(cutF (s.extract i s.size)).2.1) (by omega)]
      exact cut_ok hz h2 h3
   ·rw [if_neg h2];exact fun t ht => absurd ht List.not_mem_nil
  ·rw [if_neg h1];exact h
theorem scan_ok (s : ByteArray) : ∀ t ∈ (scanF s).1,OkT t.kind t.text:=by
 unfold scanF
 split
 ·exact fun t ht => absurd ht List.not_mem_nil
 ·exact scanA_ok s _ 0 [] (Nat.zero_le _) (fun t ht => absurd ht List.not_mem_nil)
end Go.Proofs.YtbpldfmmlgkfnaaGreatDoor
