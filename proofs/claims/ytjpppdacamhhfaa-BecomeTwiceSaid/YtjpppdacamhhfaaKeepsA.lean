/- What HeapKeeps' code computes. Conditions: the words are numbers of 64 bits. -/
import Derived.Test.YtjpppdacamhhfaaLawPuts
import Derived.Test.YtjpppdacamhhfaaHSpec4
namespace Go.Proofs.Ytjpppdacamhhfaa
open Go.RowKit
set_option linter.unusedVariables false

section
variable (xs ys : List Int) (A B : Option Addr) (c d : Nat) (w : World) (hA : Ints w A xs) (hB : Ints w B ys) (hl : xs.length ≤ 1000000000)
include hA hB hl
theorem kints_any : Calls Try.prog 58 #[.slice A xs.length c, .slice B ys.length d] w fun e w' => e = .returned (.bool (eqB xs ys)) ∧ ∃ m, w' = w.drewN m := by
  have HA := Lib.hid hA; clear hA
  have HB := Lib.hid hB; clear hB
  by_cases hlen : xs.length = ys.length
  · have HL := Lib.hid hlen
    have hle : xs.length ≤ ys.length := by omega
    have hge : ys.length ≤ xs.length := by omega
    have hd : ((xs.length : Int) != (ys.length : Int)) = false := by simp; omega
    clear hlen
    go_enter Try.func58, Try.ntmps58
    go_wp2_with fail
    go_loopw [5] (fun i wr => ∃ (k m : Nat), k ≤ xs.length ∧ i = .int .i64 k ∧ wr = w.drewN m ∧ ∀ j, j < k → nth xs j = nth ys j) (fun i _ => xs.length - (intOf i).toNat)
    case atStart => exact ⟨0, 0, Nat.zero_le _, rfl, rfl, fun j hj => absurd hj (Nat.not_lt_zero _)⟩
    case round =>
      obtain ⟨k, m, hk, rfl, rfl, hall⟩ := hrel
      have HALL := Lib.hid hall; clear hall
      by_cases hlt : k < xs.length
      · obtain ⟨b, o, rfl, _, hr⟩ := HA.out (by omega)
        obtain ⟨b', o', rfl, _, hr'⟩ := HB.out (by omega)
        have h1 := hr k hlt
        have h2 := hr' k (by omega)
        have f1 : (0 : Int) ≤ (k : Int) := by omega
        have f2 : (k : Int) < (xs.length : Int) := by omega
        have f3 : (k : Int) < (ys.length : Int) := by omega
        clear hr hr'
        cases he : (nth xs k != nth ys k)
        · have he' : nth xs k = nth ys k := by simpa using he
          have HE := Lib.hid he'; clear he'
          go_wp2_with fail
          go_quiet (fail)
          go_wp2
          go_roundw
          case rel => exact ⟨k + 1, _, by omega, by go_num, rfl, fun j hj => by rcases Nat.lt_or_ge j k with h | h; exact HALL.out j h; obtain rfl : j = k := by omega
                                                                                exact HE.out⟩
          case measure => simp [intOf]; omega
        · have he' : nth xs k ≠ nth ys k := by simpa using he
          have HE := Lib.hid (eqB_nth he'); clear he'
          go_wp2_with fail
          go_quiet (fail)
          go_wp2
          go_ret
          exact ⟨ret_bool HE.out.symm, _, World.drewN_drewN ..⟩
      · have HE := Lib.hid (eqB_all HL.out (fun j hj => HALL.out j (by omega)))
        go_wp2
        go_ret
        exact ⟨ret_bool HE.out.symm, _, rfl⟩
  · have HN := Lib.hid (eqB_len hlen)
    have hd : ((xs.length : Int) != (ys.length : Int)) = true := by simp; omega
    clear hlen
    go_enter Try.func58, Try.ntmps58
    go_wp2
    go_ret
    exact ⟨ret_bool HN.out.symm, 0, rfl⟩

end

theorem Row.drop_ {w : World} {b o : Nat} {xs : List Int} (h : Row w b o xs) (k : Nat) : Row w b (o + k) (xs.drop k) := fun j hj => by
  rw [List.length_drop] at hj
  have := h (k + j) (by omega)
  rw [show o + k + j = o + (k + j) from by omega, this]
  unfold nth; simp
theorem Row.take_ {w : World} {b o : Nat} {xs : List Int} (h : Row w b o xs) (k : Nat) : Row w b o (xs.take k) := fun j hj => by
  rw [List.length_take] at hj
  rw [h j (by omega)]
  unfold nth; simp only [List.getD_eq_getElem?_getD, List.getElem?_take]; rw [if_pos (by omega)]

/-- How many of the first j differ. -/
def cntNe (xs ys : List Int) : Nat → Nat
  | 0 => 0
  | j + 1 => cntNe xs ys j + if nth xs j = nth ys j then 0 else 1
theorem cntNe_set (ws : List Int) (J : Nat) (v : Int) : ∀ j, cntNe (ws.set J v) ws j ≤ if J < j then 1 else 0
  | 0 => by simp [cntNe]
  | j + 1 => by
    have h := cntNe_set ws J v j
    unfold cntNe
    by_cases e : J = j
    · subst e
      rw [if_neg (by omega)] at h
      have e1 : (if J < J + 1 then 1 else 0) = 1 := if_pos (by omega)
      rw [e1]
      split <;> omega
    · rw [nth_set_ne e, if_pos rfl]
      by_cases hl : J < j
      · rw [if_pos hl] at h; rw [if_pos (by omega)]; omega
      · rw [if_neg hl] at h; rw [if_neg (by omega)]; omega

theorem tiny_new : newOut [0, 1] 0 0 1 = ([0, 2, 0, 1, 4, 0], 4, 0) := by decide +kernel
theorem i64_tiny : I64 [0, 1] := fun j => by
  match j with
  | 0 => simp [nth]
  | 1 => simp [nth]
  | j + 2 => simp [nth]

/-- What is there where a slot was changed. -/
theorem keeps_put {ws : List Int} {x at_ what : Int} (hok : OkH ws) (h : putE ws x at_ what = 0) (hw : I64 ws) (w1 : -9223372036854775808 ≤ what) (w2 : what ≤ 9223372036854775807) :
    ∃ k : Nat, at_ = k ∧ OkH (putW ws x at_ what) ∧ isTh (putW ws x at_ what) x = true ∧ I64 (putW ws x at_ what) ∧ k < (slotsL (putW ws x at_ what) (plc x)).length ∧ nth (slotsL (putW ws x at_ what) (plc x)) k = what ∧
      (∀ j, cntNe (putW ws x at_ what) ws j ≤ 1) := by
  obtain ⟨ho, hp⟩ := put_ok hok h
  obtain ⟨ht, h1, h2, h3⟩ := putE_zero h
  obtain ⟨hm, _⟩ := isTh_mem ht
  obtain ⟨k, rfl⟩ : ∃ k : Nat, at_ = k := ⟨at_.toNat, by omega⟩
  have hk : k < slotsN ws (x / 2).toNat := by omega
  have hfit := (places_mem hm).2.2
  have hfit' : badB (putW ws x k what) (plc x) = false := (places_mem (hp ▸ hm)).2.2
  have hle := nxt_le hfit
  have hnx : nxt ws (x / 2).toNat = (x / 2).toNat + 3 + slotsN ws (x / 2).toNat := rfl
  have hsn : slotsN (putW ws x k what) (plc x) = slotsN ws (x / 2).toNat := by
    unfold slotsN putW plc
    rw [nth_set_ne (by rw [Int.toNat_natCast]; omega)]
  refine ⟨k, rfl, ho, by rw [isTh_congr hp]; exact ht, ?_, by rw [slotsL_len hfit', hsn]; exact hk, ?_, fun j => ?_⟩
  · intro j
    unfold putW
    rw [nth_set_]
    split
    · exact ⟨w1, w2⟩
    · exact hw j
  · rw [slotsL_nth hfit' (by rw [hsn]; exact hk)]
    unfold putW plc
    rw [Int.toNat_natCast, nth_set_eq (by omega)]
  · have := cntNe_set ws ((x / 2).toNat + 3 + (k : Int).toNat) what j
    unfold putW
    split at this <;> omega

/-- What is there where a thing was made. -/
theorem keeps_new {K : List Int} {x : Int} (hok : OkH K) (hx : isTh K x = true) (hK : I64 K) (x1 : -9223372036854775808 ≤ x) (x2 : x ≤ 9223372036854775807) :
    (newE K x 2 2 = 6) ∨ (newE K x 2 2 = 0 ∧ OkH (newW K x 2 2) ∧ I64 (newW K x 2 2) ∧ isTh (newW K x 2 2) (2 * (K.length : Int)) = true ∧ nth (newW K x 2 2) (plc (2 * (K.length : Int))) = x ∧
      formOf (newW K x 2 2) (plc (2 * (K.length : Int))) = 2 ∧ (slotsL (newW K x 2 2) (plc (2 * (K.length : Int)))).length = 2 ∧ ((newW K x 2 2).drop 2).take (K.length - 2) = K.drop 2 ∧ (newW K x 2 2).length = K.length + 5 ∧ K.length ≤ 1995) := by
  by_cases h : newE K x 2 2 = 0
  · right
    have h' : newE K x 2 ((2 : Nat) : Int) = 0 := h
    have hn := new_ok hok h'
    obtain ⟨_, _, _, _, _, hl, h1⟩ := newE_zero h
    obtain ⟨hpl, _⟩ := new_places (cl := x) (fm := 2) (k := 2) hok (by omega) (by omega) (by omega)
    obtain ⟨hb, _, hsn, hfm⟩ := new_head (cl := x) (fm := 2) (k := 2) hok (by omega) (by omega) (by omega)
    have hplc : plc (2 * (K.length : Int)) = K.length := by unfold plc; omega
    have hlen := newW_len_ (ws := K) (cl := x) (fm := 2) (k := 2)
    have h2 := hok.two
    have hw1 := hok.w1
    rw [hplc]
    refine ⟨h, hn, ?_, isTh_of (by show K.length ∈ places (newW K x 2 ((2 : Nat) : Int)); rw [hpl]; simp) hn.most, newW_nth_new (ws := K) (cl := x) (fm := 2) (k := 2) 0 (by omega), hfm, ?_, ?_, hlen, by omega⟩
    · intro j
      show -9223372036854775808 ≤ nth (newW K x 2 ((2 : Nat) : Int)) j ∧ nth (newW K x 2 ((2 : Nat) : Int)) j ≤ 9223372036854775807
      rcases Nat.lt_or_ge j K.length with hj | hj
      · by_cases e : j = 1
        · subst e; rw [newW_nth_one h2]; omega
        · rw [newW_nth_lt h2 hj e]; exact hK j
      · rcases Nat.lt_or_ge j (K.length + 3) with hj' | hj'
        · obtain ⟨i, rfl⟩ : ∃ i, j = K.length + i := ⟨j - K.length, by omega⟩
          rw [newW_nth_new i (by omega)]
          have : i = 0 ∨ i = 1 ∨ i = 2 := by omega
          rcases this with rfl | rfl | rfl
          · exact ⟨x1, x2⟩
          · exact ⟨by show _ ≤ nth K 1; omega, by show nth K 1 ≤ _; omega⟩
          · exact ⟨by show (-9223372036854775808 : Int) ≤ 4 * ((2 : Nat) : Int) + 2; decide, by show 4 * ((2 : Nat) : Int) + 2 ≤ (9223372036854775807 : Int); decide⟩
        · obtain ⟨i, rfl⟩ : ∃ i, j = K.length + 3 + i := ⟨j - (K.length + 3), by omega⟩
          rw [newW_nth_slot]; decide
    · have := slotsL_len hb
      rw [hsn] at this; exact this
    · unfold newW
      rw [List.append_assoc, List.drop_append_of_le_length (by simpa using h2), List.take_append_of_le_length (by simp)]
      rw [List.take_of_length_le (by simp)]
      apply List.ext_getElem
      · simp
      · intro i a b
        simp [List.getElem_set]
        omega
  · left
    unfold newE at h ⊢
    rw [if_neg (by rintro ⟨_, e⟩; rw [hx] at e; cases e)] at h ⊢
    rw [if_neg (by omega)] at h ⊢
    split
    · rfl
    · rename_i hh; rw [if_neg hh] at h; exact absurd rfl h

end Go.Proofs.Ytjpppdacamhhfaa
