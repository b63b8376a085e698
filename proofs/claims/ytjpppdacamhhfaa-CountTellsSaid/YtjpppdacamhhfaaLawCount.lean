/- What CountTells' code computes. Conditions: the words are numbers of 64 bits. -/
import Derived.Test.YtjpppdacamhhfaaTrial
import Derived.Test.YtjpppdacamhhfaaRReach
import Derived.Test.YtjpppdacamhhfaaVast
namespace Go.Proofs.Ytjpppdacamhhfaa
open Go.RowKit
set_option linter.unusedVariables false

theorem trial_app (a b : List Nat) (f : Nat → Bool) : trialF (a ++ b) f = trialF a f ++ trialF b f := by unfold trialF; rw [List.filter_append, List.map_append]
theorem cntL_len (ws rs : List Int) : (cntL ws rs).length = (places ws).length := by unfold cntL; rw [List.length_map]
theorem nth_mid (a : List Int) (x : Int) (b : List Int) : nth (a ++ [x] ++ b) a.length = x := by simp [nth]

set_option maxRecDepth 100000 in
set_option maxHeartbeats 1600000 in
theorem countTells_walk (ws : List Int) (A : Option Addr) (c : Nat) (rs : List Int) (B : Option Addr) (d : Nat) (w : World)
    (hA : Ints w A ws) (hcap : ws.length ≤ c) (hw : I64 ws) (hl : ws.length ≤ 9223372036854775807) (hB : Ints w B rs) (hcapB : rs.length ≤ d) (hr : I64 rs) (hrl : rs.length ≤ 9223372036854775807) :
    Calls Try.prog 12 #[.agg #[.slice A ws.length c], .slice B rs.length d] w fun e w' => e = .returned (.bool true) ∧ Below w.heap.size w w' := by
  have hx0 : Below w.heap.size w (w.alloc (.cells #[.slice A ws.length c] 33)) := (Below.refl _ _).alloc (Nat.le_refl _) _
  have HX0 := Lib.hid hx0
  have HA := Lib.hid (hA.below hx0); have HB := Lib.hid (hB.below hx0)
  have HW := Lib.hid hw; have HRI := Lib.hid hr
  have HH := Lib.hid (Blk.new w 33 #[.slice A ws.length c])
  clear hx0 hA hB hw hr
  have hv := vastv_any ws rs [] A B none c d 0 (w.alloc (.cells #[.slice A ws.length c] 33))
  have HV := Lib.hid hv; clear hv
  by_cases hbig : 5000 < ws.length ∨ 5000 < rs.length
  · have hvv : (decide (5000 < ws.length) || decide (5000 < rs.length) || decide (5000 < ([] : List Int).length)) = true := by
      simp only [Bool.or_eq_true, decide_eq_true_eq]; omega
    rw [hvv] at HV
    clear hbig hvv
    go_enter Try.func12, Try.ntmps12
    go_wp2_with (go_at_call 53; refine HV.out.mono ?_; rintro e w1 ⟨rfl, hb1⟩; have HB1 := Lib.hid hb1; clear hb1)
    go_ret
    exact ⟨rfl, HX0.out.trans (HB1.out.mono (by simp))⟩
  have s1 : ws.length ≤ 5000 := by omega
  have s2 : rs.length ≤ 5000 := by omega
  have hvv : (decide (5000 < ws.length) || decide (5000 < rs.length) || decide (5000 < ([] : List Int).length)) = false := by
    simp only [Bool.or_eq_false_iff, decide_eq_false_iff_not, List.length_nil]; omega
  rw [hvv] at HV
  clear hvv hbig
  go_enter Try.func12, Try.ntmps12
  go_wp2_with fail
  refine HV.out.mono ?_
  rintro e w1 ⟨rfl, hb1⟩
  have HX1 := Lib.hid (HX0.out.trans (hb1.mono (by simp)))
  have HA1 := Lib.hid (HA.out.below hb1); have HB1 := Lib.hid (HB.out.below hb1)
  have HH1 := Lib.hid (HH.out.below hb1 HH.out.lt)
  obtain ⟨x1, x2, x3⟩ := HH1.out.f1
  clear hb1
  go_wp2_with fail
  refine (countCounts_any ws rs A B c d w1 HA1.out hcap HW.out hl HB1.out HRI.out (by omega)).mono ?_
  rintro e w2 ⟨X, hX, hb2, A2, c2, rfl, hoa⟩
  have HXX := Lib.hid hX
  have hia : Ints w2 A2 X := (own_ints' hoa).1
  have HX2 := Lib.hid (HX1.out.trans (hb2.mono HX1.out.size))
  have HA2 := Lib.hid (HA1.out.below hb2); have HB2 := Lib.hid (HB1.out.below hb2)
  have HH2 := Lib.hid (HH1.out.below hb2 HH1.out.lt)
  generalize hf : rootsF ws rs = f at *
  have HF := Lib.hid hf; clear hf
  have hx3 : Below w2.heap.size w2 (w2.alloc (.cells #[.int .i64 f.1, .int .i64 f.2] 36)) := (Below.refl _ _).alloc (Nat.le_refl _) _
  have HX3 := Lib.hid (HX2.out.trans (hx3.mono HX2.out.size))
  have HH3 := Lib.hid (HH2.out.below hx3 HH2.out.lt)
  have HA3 := Lib.hid (HA2.out.below hx3); have HB3 := Lib.hid (HB2.out.below hx3)
  have HIA3 := Lib.hid (hia.below hx3)
  have HK3 := Lib.hid (Blk.new w2 36 #[.int .i64 f.1, .int .i64 f.2])
  clear hx3 hb2 hoa hia hX x1 x2 x3
  obtain ⟨x1, x2, x3⟩ := HH2.out.f1
  unfold fltV
  go_wp2_with fail
  generalize (w2.alloc (.cells #[.int .i64 f.1, .int .i64 f.2] 36)) = w3 at *
  generalize w2.heap.size = K at *
  refine (trial_any ws rs A B c d w3 HA3.out hcap HW.out hl HB3.out HRI.out (by omega)).mono ?_
  rintro e w4 ⟨Y, hY, hb4, A4, c4, rfl, hob⟩
  rw [HF.out] at hY ⊢
  have HYY := Lib.hid hY
  have hib : Ints w4 A4 Y := (own_ints' hob).1
  have HX4 := Lib.hid (HX3.out.trans (hb4.mono HX3.out.size))
  have HA4 := Lib.hid (HA3.out.below hb4); have HB4 := Lib.hid (HB3.out.below hb4)
  have HH4 := Lib.hid (HH3.out.below hb4 HH3.out.lt)
  have HIA4 := Lib.hid (HIA3.out.below hb4)
  have HK4 := Lib.hid (HK3.out.below hb4 HK3.out.lt)
  have hx5 : Below w4.heap.size w4 (w4.alloc (.cells #[.int .i64 f.1, .int .i64 f.2] 36)) := (Below.refl _ _).alloc (Nat.le_refl _) _
  have HX5 := Lib.hid (HX4.out.trans (hx5.mono HX4.out.size))
  have HH5 := Lib.hid (HH4.out.below hx5 HH4.out.lt)
  have HA5 := Lib.hid (HA4.out.below hx5); have HB5 := Lib.hid (HB4.out.below hx5)
  have HIA5 := Lib.hid (HIA4.out.below hx5); have HIB5 := Lib.hid (hib.below hx5)
  have HK5 := Lib.hid (HK4.out.below hx5 HK4.out.lt)
  have HL5 := Lib.hid (Blk.new w4 36 #[.int .i64 f.1, .int .i64 f.2])
  clear hx5 hb4 hob hib hY x1 x2 x3
  obtain ⟨x1, x2, x3⟩ := HH4.out.f1
  unfold fltV
  go_wp2_with fail
  generalize (w4.alloc (.cells #[.int .i64 f.1, .int .i64 f.2] 36)) = w5 at *
  generalize w4.heap.size = K2 at *
  refine (rroots_any ws rs A B c d w5 HA5.out HW.out hl HB5.out HRI.out hrl).mono ?_
  rintro e w6 ⟨rfl, hb6⟩
  rw [HF.out]
  have hx7 : Below w6.heap.size w6 (w6.alloc (.cells #[.int .i64 f.1, .int .i64 f.2] 36)) := (Below.refl _ _).alloc (Nat.le_refl _) _
  have hb7 := hb6.trans (hx7.mono hb6.size)
  have HX7 := Lib.hid (HX5.out.trans (hb7.mono HX5.out.size))
  have HA7 := Lib.hid (HA5.out.below hb7); have HB7 := Lib.hid (HB5.out.below hb7)
  have HIA7 := Lib.hid (HIA5.out.below hb7); have HIB7 := Lib.hid (HIB5.out.below hb7)
  have HH7 := Lib.hid (HH5.out.below hb7 HH5.out.lt); have HK7 := Lib.hid (HK5.out.below hb7 HK5.out.lt); have HL7 := Lib.hid (HL5.out.below hb7 HL5.out.lt)
  have HM7 := Lib.hid (Blk.new w6 36 #[.int .i64 f.1, .int .i64 f.2])
  obtain ⟨m1, m2, m3⟩ := (HH5.out.below hb6 HH5.out.lt).f1
  obtain ⟨n1, n2, n3, n4, n5⟩ := (HK5.out.below hb6 HK5.out.lt).f2
  obtain ⟨o1, o2, o3, o4, o5⟩ := (HL5.out.below hb6 HL5.out.lt).f2
  clear hx7 hb6 hb7 x1 x2 x3
  cases hc : (f.1 == 0)
  · have hne : f.1 ≠ 0 := by simpa using hc
    have hc2 : (f.1 != 0) = true := by simpa using hne
    obtain ⟨-, rfl⟩ := HXX.out.resolve_right (fun h => hne h.1)
    obtain ⟨-, rfl⟩ := HYY.out.resolve_right (fun h => hne h.1)
    clear hne
    unfold fltV
    go_wp2_with fail
    go_ret
    exact ⟨rfl, HX7.out⟩
  · have h0 : f.1 = 0 := by simpa using hc
    have hrz := rootsF_zero (ws := ws) (rs := rs) (by rw [HF.out]; exact h0)
    obtain ⟨hokh, hokb, _, hfit, hz⟩ := hrz
    obtain ⟨-, hxx⟩ := HXX.out.resolve_left (fun h => h.1 h0)
    obtain ⟨-, ff, hff, hyy⟩ := HYY.out.resolve_left (fun h => h.1 h0)
    have hz0 : f = (0, 0) := HF.out.symm.trans hz
    subst hz0 hxx hyy
    have HOK := Lib.hid hokh; have HFIT := Lib.hid hfit; have HFF := Lib.hid hff
    have hqq : ws.length ≤ 2000 := hokh.most
    obtain ⟨b, o, rfl, hlt, hrow⟩ := HA7.out (by have := hokh.two; omega)
    have HROW := Lib.hid hrow
    clear h0 hokh hokb hz hrow hc hfit hff HF HXX HYY HA HA1 HA2 HA3 HA4 HA5 HA7 HV
    dsimp only at *
    unfold fltV
    go_wp2_with fail
    generalize (w6.alloc (.cells #[.int .i64 0, .int .i64 ((0 : Nat) : Int)] 36)) = w7 at *
    refine (rcounts_any ws rs b o c B d w7 HROW.out hlt HOK.out HW.out HB7.out HRI.out (by omega) HFIT.out).mono ?_
    rintro e w8 ⟨A8, c8, rfl, ho8, hb8⟩
    have hi8 : Ints w8 A8 (cntL ws rs) := (own_ints' ho8).1
    have HI8 := Lib.hid hi8
    have HX8 := Lib.hid (HX7.out.trans (hb8.mono HX7.out.size))
    have HIA8 := Lib.hid (HIA7.out.below hb8); have HIB8 := Lib.hid (HIB7.out.below hb8)
    have HB8 := Lib.hid (HB7.out.below hb8)
    have HH8 := Lib.hid (HH7.out.below hb8 HH7.out.lt); have HK8 := Lib.hid (HK7.out.below hb8 HK7.out.lt); have HL8 := Lib.hid (HL7.out.below hb8 HL7.out.lt)
    have HROW8 := Lib.hid (HROW.out.below hb8 hlt)
    have hlt8 : b < w8.heap.size := Nat.lt_of_lt_of_le hlt hb8.size
    have hxl : (cntL ws rs).length ≤ 1000000 := by rw [cntL_len]; have := places_len ws; omega
    have HXL := Lib.hid hxl
    clear ho8 hi8 hb8 hxl m1 m2 m3 n1 n2 n3 n4 n5 o1 o2 o3 o4 o5
    generalize cntL ws rs = X at *
    go_wp2_with fail
    have h45 := ints_any X X A2 A8 c2 c8 w8 HIA8.out HI8.out (by have := HXL.out; omega)
    rw [eqB_self] at h45
    refine h45.mono ?_
    rintro e w9 ⟨rfl, n, rfl⟩
    have hb9 := belowN w8.heap.size w8 n
    have HX9 := Lib.hid (HX8.out.trans (hb9.mono HX8.out.size))
    have HIB9 := Lib.hid (HIB8.out.below hb9)
    have HB9 := Lib.hid (HB8.out.below hb9)
    have HH9 := Lib.hid (HH8.out.below hb9 HH8.out.lt)
    have HROW9 := Lib.hid (HROW8.out.below hb9 hlt8)
    obtain ⟨m1, m2, m3⟩ := HH8.out.f1
    obtain ⟨n1, n2, n3, n4, n5⟩ := HK8.out.f2
    obtain ⟨o1, o2, o3, o4, o5⟩ := HL8.out.f2
    clear hb9 h45
    go_wp2_with fail
    clear m1 m2 m3 n1 n2 n3 n4 n5 o1 o2 o3 o4 o5
    refine (rreach_any ws rs b o c B d (w8.drewN n) HROW9.out hlt8 HOK.out HW.out HB9.out HRI.out (by omega) HFIT.out).mono ?_
    rintro e w10 ⟨g1, G1, hT, rfl, hO10, hb10⟩
    obtain rfl : g1 = ff := hT.one HFF.out
    have HX10 := Lib.hid (HX9.out.trans (hb10.mono HX9.out.size))
    have HIB10 := Lib.hid (HIB9.out.below hb10)
    have HROW10 := Lib.hid (HROW9.out.below hb10 hlt8)
    have HH10 := Lib.hid (HH9.out.below hb10 HH9.out.lt)
    have HO10 := Lib.hid hO10
    clear hT hO10 hb10
    obtain ⟨m1, m2, m3⟩ := HH10.out.f1
    generalize hT9 : trialF (places ws) g1 = T at *
    have HT9 := Lib.hid hT9
    have htl : T.length ≤ 2000 := by rw [← hT9]; have h1 := trial_len (places ws) g1; have h2 := places_len ws; omega
    clear hT9
    go_wp2_with fail
    go_loopw [13, 14] (fun k i u => ∃ (p : Nat) (pre : List Nat), k = .int .i64 ((trialF pre g1).length : Nat) ∧ i = .int .i64 p ∧ 2 ≤ p ∧ p ≤ 200000 ∧ badFrom ws p = none ∧ places ws = pre ++ plFrom ws p ∧ u = w10) (fun _ i _ => ws.length - (intOf i).toNat)
    case atStart => exact ⟨2, [], rfl, rfl, by omega, by omega, HOK.out.bad, places_eq ws, rfl⟩
    case round =>
      obtain ⟨p, pre, rfl, rfl, hp2, hp4, hbd, hpl, rfl⟩ := hrel
      have HBD := Lib.hid hbd; have HPL := Lib.hid hpl
      clear hbd hpl
      by_cases hpw : p < ws.length
      · obtain ⟨hbad, hnx⟩ := badFrom_none HBD.out hpw
        obtain ⟨n1, n2, n3, n4, n5⟩ := not_bad hbad
        have hpl2 : places ws = (pre ++ [p]) ++ plFrom ws (nxt ws p) := by rw [HPL.out, plFrom_ok hpw hbad]; simp
        have HPL2 := Lib.hid hpl2
        have hcast := Lib.hid (nxt_cast hbad)
        have HNX := Lib.hid hnx
        have hnl := nxt_le hbad
        have hnxe : nxt ws p = p + 3 + slotsN ws p := rfl
        have hc0 := HO10.out.cell p hpw
        have hr2 := HROW10.out (p + 2) (by omega)
        clear hbad hnx hpl2
        cases hfp : g1 p
        · rw [hfp] at hc0
          have hTe : T = trialF pre g1 ++ [2 * (p : Int)] ++ trialF (plFrom ws (nxt ws p)) g1 := by rw [← HT9.out, HPL2.out, trial_app, trial_no hfp]
          have hln : (trialF (pre ++ [p]) g1).length = (trialF pre g1).length + 1 := by rw [trial_no hfp, List.length_append]; rfl
          have HLN := Lib.hid hln
          have hlt9 : (trialF pre g1).length < T.length := by rw [hTe]; simp only [List.length_append, List.length_singleton]; omega
          obtain ⟨bq, oq, hA4, hltq, hrq⟩ := HIB10.out (by omega)
          subst hA4
          have hcq := hrq _ hlt9
          have hnq : nth T (trialF pre g1).length = 2 * (p : Int) := by rw [hTe]; exact nth_mid _ _ _
          rw [hnq] at hcq
          clear hTe hln hrq hnq hfp
          generalize (trialF pre g1).length = k at *
          go_wp2_with fail
          go_roundw
          case rel => exact ⟨nxt ws p, pre ++ [p], by rw [HLN.out]; go_num, by rw [hcast.out], by omega, by omega, HNX.out, HPL2.out, trivial⟩
          case measure => simp [intOf]; omega
        · rw [hfp] at hc0
          have hln : (trialF (pre ++ [p]) g1).length = (trialF pre g1).length := by rw [trial_yes hfp]
          have HLN := Lib.hid hln
          clear hfp hln
          go_wp2_with fail
          go_roundw
          case rel => exact ⟨nxt ws p, pre ++ [p], by rw [HLN.out], by rw [hcast.out], by omega, by omega, HNX.out, HPL2.out, trivial⟩
          case measure => simp [intOf]; omega
      · have hpe : places ws = pre := by rw [HPL.out, plFrom_end (by omega), List.append_nil]
        have hle : (trialF pre g1).length = T.length := by rw [← hpe, HT9.out]
        rw [hle]
        clear hpe hle
        go_wp2_with fail
        go_ret
        exact ⟨rfl, HX10.out⟩
end Go.Proofs.Ytjpppdacamhhfaa
