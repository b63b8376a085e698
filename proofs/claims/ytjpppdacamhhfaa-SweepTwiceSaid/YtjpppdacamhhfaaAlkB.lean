/- reach.all asks of two rows, pair by pair. Conditions: the closure does what it is said to do. -/
import Derived.Test.YtjpppdacamhhfaaAlkA
namespace Go.Proofs.Ytjpppdacamhhfaa
open Go.RowKit
set_option linter.unusedVariables false

theorem drop_slot {xs : List Int} {k : Nat} (hk : k < xs.length) : xs.drop k = nth xs k :: xs.drop (k + 1) := by
  rw [List.drop_eq_getElem_cons hk, nth_eq hk]
def AllEnd (St : List (Nat × Nat) → World → Prop) (S : Nat → Prop) (r : Bool × List (Nat × Nat)) (w : World) (e : Ending) (w' : World) : Prop :=
  e = .returned (.bool r.1) ∧ (r.1 = true → St r.2 w') ∧ Turned w w' S

set_option maxRecDepth 100000 in
set_option maxHeartbeats 4000000 in
theorem all_any (Z : Nat) (xs ys : List Int) (A B : Option Addr) (c d : Nat) (wf wg : Int → Int) (St : List (Nat × Nat) → World → Prop) (S : Nat → Prop) (w : World) (ps0 : List (Nat × Nat))
    (hlen : xs.length = ys.length) (hl : xs.length ≤ 1000000) (hxs : I64 xs) (hys : I64 ys) (hA : ∀ W, Turned w W S → Ints W A xs) (hB : ∀ W, Turned w W S → Ints W B ys) (h0 : St ps0 w)
    (hcall : ∀ j ps W, j < xs.length → St ps W → Turned w W S → Calls Try.prog 129 #[.pointer (some ⟨Z, 0, none⟩), .int .i64 (nth xs j), .int .i64 (nth ys j)] W fun e W' => e = .returned (.bool (alP ps (wf (nth xs j)) (wg (nth ys j))).1) ∧ St (alP ps (wf (nth xs j)) (wg (nth ys j))).2 W' ∧ Turned W W' S) :
    Calls Try.prog 128 #[.slice A xs.length c, .slice B ys.length d, .func (.func 129) #[.pointer (some ⟨Z, 0, none⟩)] #[]] w (AllEnd St S (alAll ps0 (xs.map wf) (ys.map wg)) w) := by
  have HA := Lib.hid hA; have HB := Lib.hid hB; have H0 := Lib.hid h0; have HC := Lib.hid hcall; have HL := Lib.hid hlen
  have hlb : ((((xs.length : Nat) : Int)) == ((ys.length : Nat) : Int)) = true := by simp; omega
  have HXS := Lib.hid hxs; have HYS := Lib.hid hys
  clear hA hB h0 hcall hxs hys hlen
  go_enter Try.func128, Try.ntmps128
  go_wp2_with fail
  go_loopw [11] (fun i wr => ∃ (j : Nat) (ps : List (Nat × Nat)), i = .int .i64 j ∧ j ≤ xs.length ∧ St ps wr ∧ Turned w wr S ∧ alAll ps0 (xs.map wf) (ys.map wg) = alAll ps ((xs.drop j).map wf) ((ys.drop j).map wg)) (fun i _ => xs.length - (intOf i).toNat)
  case atStart => exact ⟨0, ps0, rfl, Nat.zero_le _, H0.out, Turned.refl _ _, by rw [List.drop_zero, List.drop_zero]⟩
  case round =>
    obtain ⟨j, ps, rfl, hj, hs, ht, he⟩ := hrel
    have HS := Lib.hid hs; have HT := Lib.hid ht; have HE := Lib.hid he
    clear hs ht he
    by_cases hjl : j < xs.length
    · obtain ⟨b1, o1, rfl, -, r1⟩ := HA.out _ HT.out (by omega)
      obtain ⟨b2, o2, rfl, -, r2⟩ := HB.out _ HT.out (by have := HL.out; omega)
      have e1 := r1 j hjl
      have e2 := r2 j (by have := HL.out; omega)
      have hjy : (j : Int) < (ys.length : Int) := by have := HL.out; omega
      have hd1 := drop_slot hjl
      have hd2 := drop_slot (xs := ys) (k := j) (by have := HL.out; omega)
      rw [hd1, hd2, List.map_cons, List.map_cons, alAll] at HE
      have hc := HC.out j ps wr hjl HS.out HT.out
      clear r1 r2 hd1 hd2
      cases hr : (alP ps (wf (nth xs j)) (wg (nth ys j))).1
      · rw [hr, if_neg (by decide)] at HE
        rw [hr] at hc
        have HCC := Lib.hid hc
        clear hr hc
        go_wp2_with (go_at_call 129; refine HCC.out.mono ?_; rintro e w6 ⟨rfl, hs6, ht6⟩; have HT6 := Lib.hid (HT.out.trans ht6 (fun k _ h => h)); clear hs6 ht6)
        refine bodyPost_ret (v := .bool false) (by simp [results, Try.results128, go_sem]) rfl ⟨by rw [HE.out], ?_, HT6.out⟩
        rw [HE.out]; exact fun e => by cases e
      · rw [hr, if_pos rfl] at HE
        rw [hr] at hc
        have HCC := Lib.hid hc
        clear hr hc
        go_wp2_with (go_at_call 129; refine HCC.out.mono ?_; rintro e w6 ⟨rfl, hs6, ht6⟩; have HS6 := Lib.hid hs6; have HT6 := Lib.hid (HT.out.trans ht6 (fun k _ h => h)); clear hs6 ht6)
        go_roundw
        case rel => exact ⟨j + 1, _, by go_num, by omega, HS6.out, HT6.out, HE.out⟩
        case measure => simp [intOf]; omega
    · have he2 : alAll ps ((xs.drop j).map wf) ((ys.drop j).map wg) = (true, ps) := by
        rw [List.drop_eq_nil_of_le (by omega), List.map_nil, alAll]
      rw [he2] at HE
      clear he2
      go_wp2_with fail
      refine bodyPost_ret (v := .bool true) (by simp [results, Try.results128, go_sem]) rfl ⟨by rw [HE.out], ?_, HT.out⟩
      rw [HE.out]; exact fun _ => HS.out


set_option maxRecDepth 100000 in
set_option maxHeartbeats 4000000 in
theorem allw_any (Z : Nat) (xs ys : List Int) (A B : Option Addr) (c d : Nat) (wf wg : Int → Int) (St : List (Nat × Nat) → World → Prop) (S : Nat → Prop) (w : World) (ps0 : List (Nat × Nat))
    (hlen : xs.length = ys.length) (hl : xs.length ≤ 1000000) (hxs : I64 xs) (hys : I64 ys) (hA : ∀ W, Turned w W S → Ints W A xs) (hB : ∀ W, Turned w W S → Ints W B ys) (h0 : St ps0 w)
    (hcall : ∀ j ps W, j < xs.length → St ps W → Turned w W S → Calls Try.prog 131 #[.int .i64 (nth xs j), .int .i64 (nth ys j), .pointer (some ⟨Z, 0, none⟩)] W fun e W' => e = .returned (.bool (alP ps (wf (nth xs j)) (wg (nth ys j))).1) ∧ St (alP ps (wf (nth xs j)) (wg (nth ys j))).2 W' ∧ Turned W W' S) :
    Calls Try.prog 128 #[.slice A xs.length c, .slice B ys.length d, .func (.func 131) #[] #[.pointer (some ⟨Z, 0, none⟩)]] w (AllEnd St S (alAll ps0 (xs.map wf) (ys.map wg)) w) := by
  have HA := Lib.hid hA; have HB := Lib.hid hB; have H0 := Lib.hid h0; have HC := Lib.hid hcall; have HL := Lib.hid hlen
  have hlb : ((((xs.length : Nat) : Int)) == ((ys.length : Nat) : Int)) = true := by simp; omega
  have HXS := Lib.hid hxs; have HYS := Lib.hid hys
  clear hA hB h0 hcall hxs hys hlen
  go_enter Try.func128, Try.ntmps128
  go_wp2_with fail
  go_loopw [11] (fun i wr => ∃ (j : Nat) (ps : List (Nat × Nat)), i = .int .i64 j ∧ j ≤ xs.length ∧ St ps wr ∧ Turned w wr S ∧ alAll ps0 (xs.map wf) (ys.map wg) = alAll ps ((xs.drop j).map wf) ((ys.drop j).map wg)) (fun i _ => xs.length - (intOf i).toNat)
  case atStart => exact ⟨0, ps0, rfl, Nat.zero_le _, H0.out, Turned.refl _ _, by rw [List.drop_zero, List.drop_zero]⟩
  case round =>
    obtain ⟨j, ps, rfl, hj, hs, ht, he⟩ := hrel
    have HS := Lib.hid hs; have HT := Lib.hid ht; have HE := Lib.hid he
    clear hs ht he
    by_cases hjl : j < xs.length
    · obtain ⟨b1, o1, rfl, -, r1⟩ := HA.out _ HT.out (by omega)
      obtain ⟨b2, o2, rfl, -, r2⟩ := HB.out _ HT.out (by have := HL.out; omega)
      have e1 := r1 j hjl
      have e2 := r2 j (by have := HL.out; omega)
      have hjy : (j : Int) < (ys.length : Int) := by have := HL.out; omega
      have hd1 := drop_slot hjl
      have hd2 := drop_slot (xs := ys) (k := j) (by have := HL.out; omega)
      rw [hd1, hd2, List.map_cons, List.map_cons, alAll] at HE
      have hc := HC.out j ps wr hjl HS.out HT.out
      clear r1 r2 hd1 hd2
      cases hr : (alP ps (wf (nth xs j)) (wg (nth ys j))).1
      · rw [hr, if_neg (by decide)] at HE
        rw [hr] at hc
        have HCC := Lib.hid hc
        clear hr hc
        go_wp2_with (go_at_call 131; refine HCC.out.mono ?_; rintro e w6 ⟨rfl, hs6, ht6⟩; have HT6 := Lib.hid (HT.out.trans ht6 (fun k _ h => h)); clear hs6 ht6)
        refine bodyPost_ret (v := .bool false) (by simp [results, Try.results128, go_sem]) rfl ⟨by rw [HE.out], ?_, HT6.out⟩
        rw [HE.out]; exact fun e => by cases e
      · rw [hr, if_pos rfl] at HE
        rw [hr] at hc
        have HCC := Lib.hid hc
        clear hr hc
        go_wp2_with (go_at_call 131; refine HCC.out.mono ?_; rintro e w6 ⟨rfl, hs6, ht6⟩; have HS6 := Lib.hid hs6; have HT6 := Lib.hid (HT.out.trans ht6 (fun k _ h => h)); clear hs6 ht6)
        go_roundw
        case rel => exact ⟨j + 1, _, by go_num, by omega, HS6.out, HT6.out, HE.out⟩
        case measure => simp [intOf]; omega
    · have he2 : alAll ps ((xs.drop j).map wf) ((ys.drop j).map wg) = (true, ps) := by
        rw [List.drop_eq_nil_of_le (by omega), List.map_nil, alAll]
      rw [he2] at HE
      clear he2
      go_wp2_with fail
      refine bodyPost_ret (v := .bool true) (by simp [results, Try.results128, go_sem]) rfl ⟨by rw [HE.out], ?_, HT.out⟩
      rw [HE.out]; exact fun _ => HS.out

end Go.Proofs.Ytjpppdacamhhfaa
