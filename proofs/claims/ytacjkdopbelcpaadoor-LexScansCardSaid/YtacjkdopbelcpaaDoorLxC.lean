/- What a text begins with, as the program cuts it. Conditions: a text that is not empty, of 4000 bytes at most; strconv.ErrRange holds an error. -/
import Derived.Test.YtacjkdopbelcpaaDoorLxB
import Derived.Test.YtacjkdopbelcpaaDoorAtoi
namespace Go.Proofs.YtacjkdopbelcpaaDoor
open Go.RowKit
set_option linter.unusedVariables false

/-- strconv.ErrRange holds an error. -/
def LV (w : World) : Prop := ∃ te pe, w.cell? ⟨1, 0, none⟩ = some (.iface te pe)
def AtoiTold (t : ByteArray) (w : World) (e : Ending) (w' : World) : Prop := Below w.heap.size w w' ∧ ∃ v E, e = .returned (.tuple #[.int .i64 v, E]) ∧
  ((E = .nilIface ∧ v = (numF 0 t.data.toList : Nat)) ∨ ((∃ N, E = .iface 51 (.pointer (some ⟨N, 0, none⟩))) ∧ 1073741823 < numF 0 t.data.toList))
theorem atoi_any (t : ByteArray) (h0 : 0 < t.size) (hd : ∀ j, j < t.size → isDg (bt t j) = true) (hl : t.size ≤ 4000) (w : World) (hv : LV w) : Calls Tryd.prog 17 #[.string t] w (AtoiTold t w) := by
  obtain ⟨b, l, e⟩ := cut_cons h0
  have hall : ∀ c ∈ b :: l, isDg c = true := fun c hc => by
    rw [← e] at hc
    obtain ⟨j, hj, rfl⟩ := List.getElem_of_mem hc
    rw [bt_list]; exact hd j (by rw [size_len] at hj; exact hj)
  have ha := atoi_digits hall
  rw [← e] at ha
  by_cases hn : numF 0 t.data.toList < 9223372036854775808
  · rw [if_pos hn] at ha
    refine (Tryd.strconv_Atoi_ok t (by omega) _ ha w).mono ?_
    rintro e' w' ⟨rfl, hw⟩
    refine ⟨?_, _, _, rfl, .inl ⟨rfl, rfl⟩⟩
    rcases hw with rfl | ⟨s, rfl⟩
    · exact Below.refl _ _
    · exact Lib.bytesWorld_below _ _ _
  · rw [if_neg hn] at ha
    obtain ⟨te, pe, hc⟩ := hv
    refine (Tryd.strconv_Atoi_range t (by omega) ha _ w hc (.inr ⟨te, pe, rfl⟩)).mono ?_
    rintro e' w' ⟨N, rfl, -, -, hb⟩
    exact ⟨hb, _, _, rfl, .inr ⟨⟨N, rfl⟩, by omega⟩⟩
def CutTold (x : ByteArray) (w : World) (e : Ending) (w' : World) : Prop := e = .returned (.tuple #[.int .i64 (cutF x).1, .int .i64 ((cutF x).2.1 : Nat), .int .i64 (cutF x).2.2]) ∧ Below w.heap.size w w'
theorem is_u8 (b : UInt8) (k : Nat) (hk : k < 256) : (((b.toNat : Nat) : Int) == (k : Int)) = decide (b = UInt8.ofNat k) := by
  rw [Bool.eq_iff_iff]
  simp only [beq_iff_eq, decide_eq_true_eq]
  constructor
  · intro h
    apply UInt8.toNat_inj.1
    rw [UInt8.toNat_ofNat']
    omega
  · rintro rfl
    rw [UInt8.toNat_ofNat']
    omega
theorem hp_iff {x : ByteArray} (h0 : 0 < x.size) : Lib.hasPrefix x.data.toList [61, 61] = true ↔ (1 < x.size ∧ bt x 0 = 61 ∧ bt x 1 = 61) := by
  have hz := size_len x
  unfold bt Lib.hasPrefix
  cases e : x.data.toList with
  | nil => exfalso; rw [e, List.length_nil] at hz; omega
  | cons b r =>
    cases r with
    | nil =>
      rw [e] at hz
      have h1 : x.size = 1 := hz.symm
      constructor
      · intro h
        have h2 : ((61 : UInt8) == b && false) = true := h
        rw [Bool.and_false] at h2; cases h2
      · rintro ⟨h, -⟩; omega
    | cons c r =>
      rw [e] at hz
      have h2 : 1 < x.size := by rw [← hz]; simp
      have h3 : List.isPrefixOf [61, 61] (b :: c :: r) = ((61 : UInt8) == b && ((61 : UInt8) == c && true)) := by cases r <;> rfl
      rw [h3]
      show _ ↔ (1 < x.size ∧ b = 61 ∧ c = 61)
      rw [Bool.and_true, Bool.and_eq_true, beq_iff_eq, beq_iff_eq]
      exact ⟨fun ⟨h4, h5⟩ => ⟨h2, h4.symm, h5.symm⟩, fun ⟨_, h4, h5⟩ => ⟨h4.symm, h5.symm⟩⟩
theorem ib_iff (b : UInt8) : ∀ l : List UInt8, (0 ≤ Lib.indexByte l b ∧ l.contains b = true) ∨ (Lib.indexByte l b = -1 ∧ l.contains b = false)
  | [] => .inr ⟨rfl, rfl⟩
  | a :: l => by
    have ih := ib_iff b l
    unfold Lib.indexByte
    by_cases h : (a == b) = true
    · rw [if_pos h]
      left
      have : a = b := by simpa using h
      subst this
      exact ⟨by omega, by simp⟩
    · rw [if_neg h]
      have hne : ¬ a = b := by simpa using h
      have hc : (a :: l).contains b = l.contains b := by
        rw [Bool.eq_iff_iff]; simp only [List.contains_iff_mem, List.mem_cons]
        exact ⟨fun h => h.resolve_left (fun e => hne e.symm), .inr⟩
      rw [hc]
      rcases ih with ⟨h1, h2⟩ | ⟨h1, h2⟩
      · left
        rw [if_neg (by simp; omega)]
        exact ⟨by omega, h2⟩
      · right
        rw [h1, if_pos (by decide)]
        exact ⟨rfl, h2⟩
theorem not_u8 {b : UInt8} {k : Nat} (hk : k < 256) (h : ¬ b = UInt8.ofNat k) : (((b.toNat : Nat) : Int) == (k : Int)) = false := by rw [is_u8 b k hk]; exact decide_eq_false h
set_option maxRecDepth 100000 in
set_option maxHeartbeats 1000000 in
theorem cut_any (x : ByteArray) (h0 : 0 < x.size) (hl : x.size ≤ 4000) (w : World) (hv : LV w) : Calls Tryd.prog 6 #[.string x] w (CutTold x w) := by
  have hce := cut_eq h0
  have HV := Lib.hid hv
  clear hv
  by_cases c1 : bt x 0 = 32 ∨ bt x 0 = 9 ∨ bt x 0 = 10
  · rw [if_pos c1] at hce
    have hn : (bt x 0).toNat = 32 ∨ (bt x 0).toNat = 9 ∨ (bt x 0).toNat = 10 := by
      rcases c1 with h | h | h <;> rw [h]
      · exact .inl rfl
      · exact .inr (.inl rfl)
      · exact .inr (.inr rfl)
    have HCE := Lib.hid hce
    clear hce c1
    unfold CutTold
    rcases hn with hn | hn | hn
    all_goals
      go_enter Tryd.func6, Tryd.ntmps6
      go_wp2
      go_ret3
      exact ⟨by rw [HCE.out]; rfl, Below.refl _ _⟩
  rw [if_neg c1] at hce
  have f32 : ((((bt x 0).toNat : Nat) : Int) == 32) = false := not_u8 (k := 32) (by omega) (fun h => c1 (.inl h))
  have f9 : ((((bt x 0).toNat : Nat) : Int) == 9) = false := not_u8 (k := 9) (by omega) (fun h => c1 (.inr (.inl h)))
  have f10 : ((((bt x 0).toNat : Nat) : Int) == 10) = false := not_u8 (k := 10) (by omega) (fun h => c1 (.inr (.inr h)))
  clear c1
  by_cases c2 : bt x 0 = 35
  · rw [if_pos c2] at hce
    have hn : (bt x 0).toNat = 35 := by rw [c2]; rfl
    have HCE := Lib.hid hce
    have HSP := Lib.hid (span_nl x (by omega) w)
    clear hce c2 f32 f9 f10
    unfold CutTold
    go_enter Tryd.func6, Tryd.ntmps6
    go_wp2_with (go_at_call 11; refine HSP.out.mono ?_; rintro e w' ⟨rfl, rfl⟩)
    go_ret3
    exact ⟨by rw [HCE.out]; rfl, Below.refl _ _⟩
  rw [if_neg c2] at hce
  have f35 : ((((bt x 0).toNat : Nat) : Int) == 35) = false := not_u8 (k := 35) (by omega) c2
  clear c2
  have HLT := Lib.hid (letter_any (bt x 0) w)
  have HDG := Lib.hid (digit_any (bt x 0) w)
  cases c3 : isLt (bt x 0)
  case true =>
    rw [c3] at HLT hce
    rw [if_pos rfl] at hce
    have HCE := Lib.hid hce
    have hle := spanF_le isLd x.data.toList
    rw [size_len] at hle
    have HSP := Lib.hid (span_ld x (by omega) w)
    have HWD := Lib.hid (word_any (x.extract 0 (spanF isLd x.data.toList)) w)
    clear hce c3 HDG
    unfold CutTold
    generalize spanF isLd x.data.toList = n at *
    generalize wordB (x.extract 0 n) = b at *
    cases b
    all_goals
      go_enter Tryd.func6, Tryd.ntmps6
      go_wp2_with (first
        | (go_at_call 13; refine HLT.out.mono ?_; rintro e w' ⟨rfl, rfl⟩)
        | (go_at_call 11; refine HSP.out.mono ?_; rintro e w' ⟨rfl, rfl⟩)
        | (go_at_call 16; refine HWD.out.mono ?_; rintro e w' ⟨rfl, hb⟩; have HB := Lib.hid hb; clear hb))
      go_ret3
      exact ⟨by rw [HCE.out]; rfl, HB.out⟩
  case false =>
    rw [c3] at HLT hce
    rw [if_neg (by decide)] at hce
    cases c4 : isDg (bt x 0)
    case true =>
      rw [c4] at HDG hce
      rw [if_pos rfl] at hce
      have hle := spanF_le isDg x.data.toList
      rw [size_len] at hle
      have hpos : 0 < spanF isDg x.data.toList := by
        obtain ⟨b, r, e⟩ := cut_cons h0
        have hb : bt x 0 = b := by unfold bt; rw [e]; rfl
        rw [e]; exact span_pos (by rw [← hb]; exact c4)
      have hdg : ∀ j, j < spanF isDg x.data.toList → isDg (bt x j) = true := fun j hj => by
        rw [← bt_list x (by rw [size_len]; omega)]; exact spanF_all _ hj
      have HSP := Lib.hid (span_dg x (by omega) w)
      have hex : (x.extract 0 (spanF isDg x.data.toList)).size = spanF isDg x.data.toList := by rw [ext_size x hle]; omega
      have HAT := Lib.hid (atoi_any (x.extract 0 (spanF isDg x.data.toList)) (by rw [hex]; exact hpos) (fun j hj => by
        rw [hex] at hj
        have := ext_bt (s := x) (i := 0) (k := spanF isDg x.data.toList) (j := j) (by omega) hle
        rw [this, Nat.zero_add]; exact hdg j hj) (by rw [hex]; omega) w HV.out)
      have hnl : (x.extract 0 (spanF isDg x.data.toList)).data.toList = x.data.toList.take (spanF isDg x.data.toList) := by rw [ext_list, List.drop_zero, Nat.sub_zero]
      unfold AtoiTold at HAT
      rw [hnl] at HAT
      have HCE := Lib.hid hce
      have HB48 := Lib.hid (is_u8 (bt x 0) 48 (by omega))
      clear hce c3 c4 hdg hex hnl
      unfold CutTold
      generalize numF 0 (x.data.toList.take (spanF isDg x.data.toList)) = v0 at *
      generalize spanF isDg x.data.toList = n at *
      go_enter Tryd.func6, Tryd.ntmps6
      go_wp2_with (first
        | (go_at_call 13; refine HLT.out.mono ?_; rintro e w' ⟨rfl, rfl⟩)
        | (go_at_call 15; refine HDG.out.mono ?_; rintro e w' ⟨rfl, rfl⟩)
        | (go_at_call 11; refine HSP.out.mono ?_; rintro e w' ⟨rfl, rfl⟩))
      refine HAT.out.mono ?_
      rintro e w2 ⟨hb, v, E, rfl, hE⟩
      have HB := Lib.hid hb
      clear hb HAT
      by_cases hA : 1073741823 < v0
      · have HC : Hid (cutF x = (0, 0, 2)) := by show _ = _; rw [HCE.out, if_pos (.inl hA)]
        rcases hE with ⟨rfl, rfl⟩ | ⟨⟨N, rfl⟩, -⟩
        all_goals
          go_wp2_with fail
          go_ret3
          exact ⟨by rw [HC.out]; rfl, HB.out⟩
      · rcases hE with ⟨rfl, rfl⟩ | ⟨-, hx⟩
        rotate_left
        · exact absurd hx hA
        have hA' : v0 ≤ 1073741823 := by omega
        cases h48 : ((((bt x 0).toNat : Nat) : Int) == 48)
        all_goals
          have hq := HB48.out
          rw [show (((48 : Nat) : Int)) = 48 from rfl, h48] at hq
          have HQ := Lib.hid hq
          clear hq
        case true =>
          have h48' : bt x 0 = 48 := of_decide_eq_true HQ.out.symm
          by_cases hn1 : 1 < n
          · have HC : Hid (cutF x = (0, 0, 2)) := by show _ = _; rw [HCE.out, if_pos (.inr (.inl ⟨hn1, h48'⟩))]
            clear h48'
            go_wp2_with fail
            go_ret3
            exact ⟨by rw [HC.out]; rfl, HB.out⟩
          · have HC2 := Lib.hid (fun h3 => HCE.out.trans (if_neg (fun h => h.elim hA (fun h => h.elim (fun h => hn1 h.1) h3))))
            clear h48'
            have HC1 := Lib.hid (fun h3 => HCE.out.trans (if_pos (.inr (.inr h3))))
            by_cases hn2 : n < x.size
            · have HL2 := Lib.hid (letter_any (bt x n) w2)
              cases hlt : isLt (bt x n)
              · rw [hlt] at HL2
                have HC := Lib.hid (HC2.out (fun h => by rw [h.2] at hlt; cases hlt))
                clear hlt
                go_wp2_with (go_at_call 13; refine HL2.out.mono ?_; rintro e w' ⟨rfl, rfl⟩)
                go_ret3
                exact ⟨by rw [HC.out]; rfl, HB.out⟩
              · rw [hlt] at HL2
                have HC := Lib.hid (HC1.out ⟨hn2, hlt⟩)
                clear hlt
                go_wp2_with (go_at_call 13; refine HL2.out.mono ?_; rintro e w' ⟨rfl, rfl⟩)
                go_ret3
                exact ⟨by rw [HC.out]; rfl, HB.out⟩
            · have HC := Lib.hid (HC2.out (fun h => hn2 h.1))
              go_wp2_with fail
              go_ret3
              exact ⟨by rw [HC.out]; rfl, HB.out⟩
        case false =>
          have h48' : ¬ bt x 0 = 48 := of_decide_eq_false HQ.out.symm
          have HC2 := Lib.hid (fun h3 => HCE.out.trans (if_neg (fun h => h.elim hA (fun h => h.elim (fun h => h48' h.2) h3))))
          clear h48'
          by_cases hn1 : 1 < n
          all_goals
            have HC1 := Lib.hid (fun h3 => HCE.out.trans (if_pos (.inr (.inr h3))))
            by_cases hn2 : n < x.size
            · have HL2 := Lib.hid (letter_any (bt x n) w2)
              cases hlt : isLt (bt x n)
              · rw [hlt] at HL2
                have HC := Lib.hid (HC2.out (fun h => by rw [h.2] at hlt; cases hlt))
                clear hlt
                go_wp2_with (go_at_call 13; refine HL2.out.mono ?_; rintro e w' ⟨rfl, rfl⟩)
                go_ret3
                exact ⟨by rw [HC.out]; rfl, HB.out⟩
              · rw [hlt] at HL2
                have HC := Lib.hid (HC1.out ⟨hn2, hlt⟩)
                clear hlt
                go_wp2_with (go_at_call 13; refine HL2.out.mono ?_; rintro e w' ⟨rfl, rfl⟩)
                go_ret3
                exact ⟨by rw [HC.out]; rfl, HB.out⟩
            · have HC := Lib.hid (HC2.out (fun h => hn2 h.1))
              go_wp2_with fail
              go_ret3
              exact ⟨by rw [HC.out]; rfl, HB.out⟩
    case false =>
      rw [c4] at HDG hce
      rw [if_neg (by decide)] at hce
      have HCE := Lib.hid hce
      have HPR := Lib.hid (lib_strings_HasPrefix x ⟨#[61, 61]⟩ w)
      have HIB := Lib.hid (lib_strings_IndexByte signsT ((bt x 0).toNat : Int) w)
      have hb8 : (((bt x 0).toNat : Int)).toNat.toUInt8 = bt x 0 := by rw [Int.toNat_natCast]; exact UInt8.ofNat_toNat
      rw [hb8] at HIB
      clear hce c3 c4 hb8
      unfold CutTold
      have hph := hp_iff h0
      have hpl : (⟨#[61, 61]⟩ : ByteArray).data.toList = [61, 61] := rfl
      rw [hpl] at HPR
      by_cases h2 : 1 < x.size ∧ bt x 0 = 61 ∧ bt x 1 = 61
      · have HC : Hid (cutF x = (4, 2, 0)) := by show _ = _; rw [HCE.out, sign_two h2.1 h2.2.1 h2.2.2]; rfl
        rw [hph.2 h2] at HPR
        clear h2 hph hpl
        go_enter Tryd.func6, Tryd.ntmps6
        go_wp2_with (first
          | (go_at_call 13; refine HLT.out.mono ?_; rintro e w' ⟨rfl, rfl⟩)
          | (go_at_call 15; refine HDG.out.mono ?_; rintro e w' ⟨rfl, rfl⟩)
          | (go_at_call 18; refine HPR.out.mono ?_; rintro e w' ⟨rfl, rfl⟩))
        go_ret3
        exact ⟨by rw [HC.out]; rfl, Below.refl _ _⟩
      · have hs1 := sign_one h2
        have hpf : Lib.hasPrefix x.data.toList [61, 61] = false := by
          cases hh : Lib.hasPrefix x.data.toList [61, 61] with
          | false => rfl
          | true => exact absurd (hph.1 hh) h2
        rw [hpf] at HPR
        have hib := ib_iff (bt x 0) signsT.data.toList
        have hsg : signsT.data.toList = signsB := rfl
        rw [hsg] at hib HIB
        unfold signsT at HIB
        generalize Lib.indexByte signsB (bt x 0) = q at *
        rcases hib with ⟨hq, hc⟩ | ⟨hq, hc⟩
        · have HC : Hid (cutF x = (4, 1, 0)) := by show _ = _; rw [HCE.out, hs1, hc]; rfl
          clear h2 hph hpl hs1 hpf hc hsg
          go_enter Tryd.func6, Tryd.ntmps6
          go_wp2_with (first
            | (go_at_call 13; refine HLT.out.mono ?_; rintro e w' ⟨rfl, rfl⟩)
            | (go_at_call 15; refine HDG.out.mono ?_; rintro e w' ⟨rfl, rfl⟩)
            | (go_at_call 18; refine HPR.out.mono ?_; rintro e w' ⟨rfl, rfl⟩)
            | (go_at_call 19; refine HIB.out.mono ?_; rintro e w' ⟨rfl, rfl⟩))
          go_ret3
          exact ⟨by rw [HC.out]; rfl, Below.refl _ _⟩
        · have HC : Hid (cutF x = (0, 0, 11)) := by show _ = _; rw [HCE.out, hs1, hc]; rfl
          subst hq
          clear h2 hph hpl hs1 hpf hc hsg
          go_enter Tryd.func6, Tryd.ntmps6
          go_wp2_with (first
            | (go_at_call 13; refine HLT.out.mono ?_; rintro e w' ⟨rfl, rfl⟩)
            | (go_at_call 15; refine HDG.out.mono ?_; rintro e w' ⟨rfl, rfl⟩)
            | (go_at_call 18; refine HPR.out.mono ?_; rintro e w' ⟨rfl, rfl⟩)
            | (go_at_call 19; refine HIB.out.mono ?_; rintro e w' ⟨rfl, rfl⟩))
          go_ret3
          exact ⟨by rw [HC.out]; rfl, Below.refl _ _⟩
end Go.Proofs.YtacjkdopbelcpaaDoor
