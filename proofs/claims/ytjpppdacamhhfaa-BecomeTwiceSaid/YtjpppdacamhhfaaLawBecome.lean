/- What BecomeDoes' code computes. Conditions: the words are numbers of 64 bits. -/
import Derived.Test.YtjpppdacamhhfaaOneTwo
import Derived.Test.YtjpppdacamhhfaaWrong
import Derived.Test.YtjpppdacamhhfaaRBecome
import Derived.Test.YtjpppdacamhhfaaRPut
namespace Go.Proofs.Ytjpppdacamhhfaa
open Go.RowKit
set_option linter.unusedVariables false

theorem vast_any (ws rs fr : List Int) (A B C : Option Addr) (c d c' : Nat) (w : World) :
    Calls Try.prog 53 #[.agg #[.slice A ws.length c], .slice B rs.length d, .slice C fr.length c'] w fun e w' => e = .returned (.bool (decide (5000 < ws.length) || decide (5000 < rs.length) || decide (5000 < fr.length))) ∧ Below w.heap.size w w' := by
  by_cases h1 : 5000 < ws.length
  · go_enter Try.func53, Try.ntmps53
    go_wp2
    go_ret
    exact ⟨ret_bool (by simp), (Below.refl _ _).alloc (Nat.le_refl _) _⟩
  · by_cases h2 : 5000 < rs.length
    · go_enter Try.func53, Try.ntmps53
      go_wp2
      go_ret
      exact ⟨ret_bool (by simp), (Below.refl _ _).alloc (Nat.le_refl _) _⟩
    · go_enter Try.func53, Try.ntmps53
      go_wp2
      go_ret
      exact ⟨ret_bool (by rw [decide_eq_decide.2 (show (5000 : Int) < (ws.length : Int) ↔ 5000 < ws.length by omega), decide_eq_decide.2 (show (5000 : Int) < (rs.length : Int) ↔ 5000 < rs.length by omega), decide_eq_decide.2 (show (5000 : Int) < (fr.length : Int) ↔ 5000 < fr.length by omega)]), (Below.refl _ _).alloc (Nat.le_refl _) _⟩

theorem becR_zero {ws rs fr ot : List Int} {both : Bool} (h : (becF ws rs fr ot both).1 = 0) : becR ws rs fr ot both = (exchF (other fr ot both) ws (places ws), rs.map (other fr ot both)) := by unfold becR; rw [if_pos h]
theorem becF_one {ws rs fr ot : List Int} {both : Bool} (h : (rootsF ws rs).1 ≠ 0) : becF ws rs fr ot both = rootsF ws rs := by unfold becF; rw [if_neg h]
theorem becF_two {ws rs fr ot : List Int} {both : Bool} (h : (rootsF ws rs).1 = 0) : becF ws rs fr ot both = wrongF ws fr ot both := by unfold becF; rw [if_pos h]
theorem becR_len {ws rs fr ot : List Int} {both : Bool} : (becR ws rs fr ot both).1.length ≤ ws.length ∧ (becR ws rs fr ot both).2.length ≤ rs.length := by
  unfold becR
  split
  · exact ⟨Nat.le_of_eq (exchF_len _ _ _), by simp⟩
  · simp

set_option maxRecDepth 100000 in
set_option maxHeartbeats 1600000 in
theorem becomeDoes_walk (ws : List Int) (A : Option Addr) (c : Nat) (fr : List Int) (C : Option Addr) (c' : Nat) (ot : List Int) (D : Option Addr) (d' : Nat) (rs : List Int) (B : Option Addr) (d : Nat) (w : World)
    (hA : Ints w A ws) (hcap : ws.length ≤ c) (hw : I64 ws) (hl : ws.length ≤ 9223372036854775807) (hC : Ints w C fr) (hcapC : fr.length ≤ c') (hfr : I64 fr) (hfl : fr.length ≤ 9223372036854775807)
    (hD : Ints w D ot) (hcapD : ot.length ≤ d') (hot : I64 ot) (hol : ot.length ≤ 9223372036854775807) (hB : Ints w B rs) (hcapB : rs.length ≤ d) (hr : I64 rs) (hrl : rs.length ≤ 9223372036854775807) :
    Calls Try.prog 15 #[.agg #[.slice A ws.length c], .slice C fr.length c', .slice D ot.length d', .slice B rs.length d] w fun e w' => e = .returned (.bool true) ∧ Below w.heap.size w w' := by
  have hx0 : Below w.heap.size w (w.alloc (.cells #[.slice A ws.length c] 33)) := (Below.refl _ _).alloc (Nat.le_refl _) _
  have HX0 := Lib.hid hx0
  have HA := Lib.hid (hA.below hx0); have HB := Lib.hid (hB.below hx0); have HC := Lib.hid (hC.below hx0); have HD := Lib.hid (hD.below hx0)
  have HW := Lib.hid hw; have HFR := Lib.hid hfr; have HOT := Lib.hid hot; have HRI := Lib.hid hr
  have HH := Lib.hid (Blk.new w 33 #[.slice A ws.length c])
  clear hx0 hA hB hC hD hw hfr hot hr
  have hv := vast_any ws rs fr A B C c d c' (w.alloc (.cells #[.slice A ws.length c] 33))
  have HV := Lib.hid hv; clear hv
  by_cases hbig : 5000 < ws.length ∨ 5000 < rs.length ∨ 5000 < fr.length ∨ 5000 < ot.length
  · cases hvv : (decide (5000 < ws.length) || decide (5000 < rs.length) || decide (5000 < fr.length))
    · rw [hvv] at HV
      have h4 : 5000 < ot.length := by
        simp only [Bool.or_eq_false_iff, decide_eq_false_iff_not] at hvv
        omega
      clear hbig hvv
      go_enter Try.func15, Try.ntmps15
      go_wp2_with (go_at_call 53; refine HV.out.mono ?_; rintro e w1 ⟨rfl, hb1⟩; have HB1 := Lib.hid hb1; clear hb1)
      go_ret
      exact ⟨rfl, HX0.out.trans (HB1.out.mono (by simp))⟩
    · rw [hvv] at HV
      clear hbig hvv
      go_enter Try.func15, Try.ntmps15
      go_wp2_with (go_at_call 53; refine HV.out.mono ?_; rintro e w1 ⟨rfl, hb1⟩; have HB1 := Lib.hid hb1; clear hb1)
      go_ret
      exact ⟨rfl, HX0.out.trans (HB1.out.mono (by simp))⟩
  have s1 : ws.length ≤ 5000 := by omega
  have s2 : rs.length ≤ 5000 := by omega
  have s3 : fr.length ≤ 5000 := by omega
  have s4 : ot.length ≤ 5000 := by omega
  have hvv : (decide (5000 < ws.length) || decide (5000 < rs.length) || decide (5000 < fr.length)) = false := by
    simp only [Bool.or_eq_false_iff, decide_eq_false_iff_not]; omega
  rw [hvv] at HV
  clear hvv hbig
  go_enter Try.func15, Try.ntmps15
  go_wp2_with fail
  refine HV.out.mono ?_
  rintro e w1 ⟨rfl, hb1⟩
  have HX1 := Lib.hid (HX0.out.trans (hb1.mono (by simp)))
  have HA1 := Lib.hid (HA.out.below hb1); have HB1 := Lib.hid (HB.out.below hb1); have HC1 := Lib.hid (HC.out.below hb1); have HD1 := Lib.hid (HD.out.below hb1)
  have HH1 := Lib.hid (HH.out.below hb1 HH.out.lt)
  clear hb1
  go_wp2_with fail
  go_loopw [9] (fun i wr => ∃ m : Nat, i = .int .i64 m ∧ m ≤ 2 ∧ Below w1.heap.size w1 wr) (fun i _ => 2 - (intOf i).toNat)
  case atStart => exact ⟨0, rfl, by omega, Below.refl _ _⟩
  case round =>
    obtain ⟨m, rfl, hm, hbr⟩ := hrel
    have HBR := Lib.hid hbr; clear hbr
    have HAR := Lib.hid (HA1.out.below HBR.out); have HBB := Lib.hid (HB1.out.below HBR.out); have HCR := Lib.hid (HC1.out.below HBR.out); have HDR := Lib.hid (HD1.out.below HBR.out)
    have HHR := Lib.hid (HH1.out.below HBR.out HH1.out.lt)
    obtain ⟨x1, x2, x3⟩ := HHR.out.f1
    have hs1 := HBR.out.size
    by_cases h0 : m = 0
    · subst h0
      go_wp2_with fail
      refine (one_any ws rs fr ot A B C D c d c' d' wr HAR.out hcap HW.out hl HBB.out HRI.out (by omega) HCR.out HFR.out (by omega) HDR.out HOT.out).mono ?_
      rintro e w2 ⟨hb2, A2, c2, B2, d2, rfl, hoa, hob⟩
      have hl1 : (becR ws rs fr ot false).1.length ≤ ws.length ∧ (becR ws rs fr ot false).2.length ≤ rs.length := becR_len
      generalize hbf : becF ws rs fr ot false = f at *
      generalize hbr : becR ws rs fr ot false = r at *
      have HBF := Lib.hid hbf; have HBRR := Lib.hid hbr
      obtain ⟨q1, q2⟩ := hl1
      obtain ⟨hia, _, hka⟩ := own_ints hoa
      obtain ⟨hib, _, hkb⟩ := own_ints hob
      have HIA := Lib.hid hia; have HIB := Lib.hid hib
      clear hoa hob hia hib hbf hbr
      have HH2 := Lib.hid (HHR.out.below hb2 HHR.out.lt)
      have HX2 := Lib.hid (HBR.out.trans (hb2.mono hs1))
      have HA2 := Lib.hid (HAR.out.below hb2); have HB2 := Lib.hid (HBB.out.below hb2); have HC2 := Lib.hid (HCR.out.below hb2); have HD2 := Lib.hid (HDR.out.below hb2)
      clear hb2 x1 x2 x3
      obtain ⟨x1, x2, x3⟩ := HH2.out.f1
      have hx3 : Below w2.heap.size w2 ((w2.alloc (.cells #[.slice A2 r.1.length c2] 33)).alloc (.cells #[.int .i64 f.1, .int .i64 f.2] 36)) := ((Below.refl _ _).alloc (Nat.le_refl _) _).alloc (by simp) _
      have hk3 : Blk ((w2.alloc (.cells #[.slice A2 r.1.length c2] 33)).alloc (.cells #[.int .i64 f.1, .int .i64 f.2] 36)) w2.heap.size 33 #[.slice A2 r.1.length c2] := (Blk.new _ _ _).alloc _
      have hf3 : Blk ((w2.alloc (.cells #[.slice A2 r.1.length c2] 33)).alloc (.cells #[.int .i64 f.1, .int .i64 f.2] 36)) (w2.heap.size + 1) 36 #[.int .i64 f.1, .int .i64 f.2] := by
        have := Blk.new (w2.alloc (.cells #[.slice A2 r.1.length c2] 33)) 36 #[.int .i64 f.1, .int .i64 f.2]
        simpa using this
      have HX3 := Lib.hid (HX2.out.trans (hx3.mono HX2.out.size))
      have HH3 := Lib.hid (HH2.out.below hx3 HH2.out.lt)
      have HA3 := Lib.hid (HA2.out.below hx3); have HB3 := Lib.hid (HB2.out.below hx3); have HC3 := Lib.hid (HC2.out.below hx3); have HD3 := Lib.hid (HD2.out.below hx3)
      have HIA3 := Lib.hid (HIA.out.below hx3); have HIB3 := Lib.hid (HIB.out.below hx3)
      have HK3 := Lib.hid hk3; have HF3 := Lib.hid hf3
      clear hx3 hk3 hf3
      unfold fltV
      go_wp2_with fail
      generalize ((w2.alloc (.cells #[.slice A2 r.1.length c2] 33)).alloc (.cells #[.int .i64 f.1, .int .i64 f.2] 36)) = w3 at *
      generalize w2.heap.size = K at *
      refine (rroots_any ws rs A B c d w3 HA3.out HW.out hl HB3.out HRI.out hrl).mono ?_
      rintro e w5 ⟨rfl, hb5⟩
      have HX5 := Lib.hid (HX3.out.trans (hb5.mono HX3.out.size))
      have HA5 := Lib.hid (HA3.out.below hb5); have HB5 := Lib.hid (HB3.out.below hb5); have HC5 := Lib.hid (HC3.out.below hb5); have HD5 := Lib.hid (HD3.out.below hb5)
      have HIA5 := Lib.hid (HIA3.out.below hb5); have HIB5 := Lib.hid (HIB3.out.below hb5)
      have HH5 := Lib.hid (HH3.out.below hb5 HH3.out.lt); have HK5 := Lib.hid (HK3.out.below hb5 HK3.out.lt); have HF5 := Lib.hid (HF3.out.below hb5 HF3.out.lt)
      clear hb5 x1 x2 x3
      obtain ⟨x1, x2, x3⟩ := HH5.out.f1
      obtain ⟨y1, y2, y3⟩ := HK5.out.f1
      obtain ⟨z1, z2, z3, z4, z5⟩ := HF5.out.f2
      cases hc : ((rootsF ws rs).1 == 0)
      · have hne : (rootsF ws rs).1 ≠ 0 := by simpa using hc
        have hfe := becF_one (fr := fr) (ot := ot) (both := false) hne
        have e1 : rootsF ws rs = f := hfe.symm.trans HBF.out
        have e2 : ([], []) = r := (becR_err (by rw [hfe]; exact hne)).symm.trans HBRR.out
        subst e1 e2
        have hc2 : ((rootsF ws rs).1 != 0) = true := by simpa using hne
        clear hne hfe
        unfold fltV
        go_wp2_with fail
        exact ⟨⟨1, by rfl, by omega, HX5.out.alloc HX5.out.size _⟩, by simp [intOf]⟩
      · have h0 : (rootsF ws rs).1 = 0 := by simpa using hc
        obtain ⟨hokh, hokb, _, _, hz⟩ := rootsF_zero h0
        have hfe := (becF_two (fr := fr) (ot := ot) (both := false) h0).symm.trans HBF.out
        have HFE := Lib.hid hfe
        have HOK := Lib.hid hokh
        rw [hz]
        have hqq : ws.length ≤ 2000 := hokh.most
        obtain ⟨b, o, rfl, hlt, hrow⟩ := HA5.out (by have := hokh.two; omega)
        have HROW := Lib.hid hrow
        clear h0 hokh hokb hz hfe hrow hc
        unfold fltV
        go_wp2_with fail
        have hx6 : Below w5.heap.size w5 (w5.alloc (.cells #[.int .i64 0, .int .i64 0] 36)) := (Below.refl _ _).alloc (Nat.le_refl _) _
        have hn6 := Blk.new w5 36 #[.int .i64 0, .int .i64 0]
        refine (rwrong_any ws fr ot b o c C D c' d' false _ (HROW.out.below hx6 hlt) (by simp; omega) HW.out HOK.out (HC5.out.below hx6) HFR.out (by omega) (HD5.out.below hx6) HOT.out).mono ?_
        rintro e w6 ⟨rfl, hb6⟩
        have hb56 := hx6.trans (hb6.mono hx6.size)
        have HX6 := Lib.hid (HX5.out.trans (hb56.mono HX5.out.size))
        have HB6 := Lib.hid (HB5.out.below hb56); have HC6 := Lib.hid (HC5.out.below hb56); have HD6 := Lib.hid (HD5.out.below hb56)
        have HIA6 := Lib.hid (HIA5.out.below hb56); have HIB6 := Lib.hid (HIB5.out.below hb56)
        have HH6 := Lib.hid (HH5.out.below hb56 HH5.out.lt); have HK6 := Lib.hid (HK5.out.below hb56 HK5.out.lt); have HF6 := Lib.hid (HF5.out.below hb56 HF5.out.lt)
        have HR6 := Lib.hid (HROW.out.below hb56 hlt)
        have HN6 := Lib.hid (hn6.below hb6 hn6.lt)
        have hlt6 : b < w6.heap.size := Nat.lt_of_lt_of_le hlt hb56.size
        have hn5 : w1.heap.size ≤ w5.heap.size := HX5.out.size
        have hw6 : w1.heap.size ≤ w6.heap.size := HX6.out.size
        have hk5 : K + 1 < w5.heap.size := HF5.out.lt
        have hh5 : w.heap.size < w5.heap.size := HH5.out.lt
        have hx57 : Below w5.heap.size w5 ((w6.setCell ⟨w5.heap.size, 0, none⟩ (.int .i64 0)).setCell ⟨w5.heap.size, 1, none⟩ (.int .i64 0)) := (hb56.setCell (Nat.le_refl _) _).setCell (Nat.le_refl _) _
        have HX7 := Lib.hid (HX5.out.trans (hx57.mono hn5))
        have HB7 := Lib.hid (HB5.out.below hx57); have HC7 := Lib.hid (HC5.out.below hx57); have HD7 := Lib.hid (HD5.out.below hx57)
        have HIA7 := Lib.hid (HIA5.out.below hx57); have HIB7 := Lib.hid (HIB5.out.below hx57)
        have HK7 := Lib.hid (HK5.out.below hx57 HK5.out.lt); have HF7 := Lib.hid (HF5.out.below hx57 HF5.out.lt)
        have HR7 := Lib.hid (HROW.out.below hx57 hlt)
        clear hb6 hb56 hx6 hn6 hx57 x1 x2 x3 y1 y2 y3 z1 z2 z3 z4 z5
        generalize w5.heap.size = N at *
        obtain ⟨x1, x2, x3⟩ := HH6.out.f1
        obtain ⟨y1, y2, y3⟩ := HK6.out.f1
        obtain ⟨z1, z2, z3, z4, z5⟩ := HF6.out.f2
        obtain ⟨v1, v2, v3, v4, v5⟩ := HN6.out.f2
        cases hc : ((wrongF ws fr ot false).1 != 0)
        · have e0 : wrongF ws fr ot false = (0, 0) := (wrongF_zero (by simpa using hc)).2.2
          have hge : fr.length ≤ ot.length := Nat.le_of_eq (wrongF_zero (by simpa using hc)).1
          have e1 : ((0 : Int), 0) = f := e0.symm.trans HFE.out
          have e2 := (becR_zero (by rw [HBF.out, ← e1])).symm.trans HBRR.out
          rw [e0]
          subst e1 e2
          clear e0 hc
          unfold fltV
          go_wp2_with fail
          refine (rbecome_any ws rs fr ot b o c B C D d c' d' false _ HR7.out (by simpa using hlt6) HOK.out HW.out HB7.out HRI.out (by omega) HC7.out HFR.out (by omega) HD7.out HOT.out hge (fun x => other_bd HFR.out HOT.out false x)).mono ?_
          rintro e w8 ⟨hb8, A8, c8, B8, d8, rfl, ho8, hp8⟩
          obtain ⟨hi8, _, hk8⟩ := own_ints ho8
          obtain ⟨hj8, _, hm8⟩ := own_ints hp8
          have hyl : (rs.map (other fr ot false)).length = rs.length := by simp
          have HYL := Lib.hid hyl
          clear hyl
          generalize exchF (other fr ot false) ws (places ws) = X at *
          generalize rs.map (other fr ot false) = Y at *
          have HI8 := Lib.hid hi8; have HJ8 := Lib.hid hj8
          have HX8 := Lib.hid (HX7.out.trans (hb8.mono HX7.out.size))
          have HIA8 := Lib.hid (HIA7.out.below hb8); have HIB8 := Lib.hid (HIB7.out.below hb8)
          have HK8 := Lib.hid (HK7.out.below hb8 HK7.out.lt); have HF8 := Lib.hid (HF7.out.below hb8 HF7.out.lt)
          clear hb8 ho8 hp8 hi8 hj8 x1 x2 x3 y1 y2 y3 z1 z2 z3 z4 z5 v1 v2 v3 v4 v5
          obtain ⟨y1, y2, y3⟩ := HK8.out.f1
          go_wp2_with fail
          have hx8 : Below w8.heap.size w8 (w8.alloc (.cells #[.slice A8 X.length c8] 33)) := (Below.refl _ _).alloc (Nat.le_refl _) _
          refine (heaps_any X X A2 A8 c2 c8 _ (HIA8.out.below hx8) (HI8.out.below hx8) (by omega)).mono ?_
          rintro e w9 ⟨rfl, hb9⟩
          rw [eqB_self]
          have hb89 := hx8.trans (hb9.mono hx8.size)
          have HX9 := Lib.hid (HX8.out.trans (hb89.mono HX8.out.size))
          have HIB9 := Lib.hid (HIB8.out.below hb89); have HJ9 := Lib.hid (HJ8.out.below hb89)
          have HF9 := Lib.hid (HF8.out.below hb89 HF8.out.lt)
          clear hb89 hb9 hx8 y1 y2 y3
          obtain ⟨z1, z2, z3, z4, z5⟩ := HF9.out.f2
          go_wp2_with fail
          have h45 : Calls Try.prog 45 #[.slice B2 rs.length d2, .slice B8 Y.length d8] w9 fun e w' => e = .returned (.bool true) ∧ ∃ m, w' = w9.drewN m := by
            have h := ints_any Y Y B2 B8 d2 d8 w9 HIB9.out HJ9.out (by have := HYL.out; omega)
            rw [eqB_self] at h
            rw [← HYL.out]
            exact h
          refine h45.mono ?_
          rintro e w10 ⟨rfl, n, rfl⟩
          go_wp2_with fail
          exact ⟨⟨1, by rfl, by omega, HX9.out.trans (belowN _ _ _)⟩, by simp [intOf]⟩
        · have hne : (wrongF ws fr ot false).1 ≠ 0 := by simpa using hc
          have e1 := HFE.out
          have e2 : ([], []) = r := (becR_err (by rw [HBF.out, ← e1]; exact hne)).symm.trans HBRR.out
          subst e1 e2
          clear hne
          unfold fltV
          go_wp2_with fail
          exact ⟨⟨1, by rfl, by omega, (HX6.out.setCell hn5 _).setCell hn5 _⟩, by simp [intOf]⟩
    · by_cases h1 : m = 1
      · subst h1
        go_wp2_with fail
        refine (one_any ws rs fr ot A B C D c d c' d' wr HAR.out hcap HW.out hl HBB.out HRI.out (by omega) HCR.out HFR.out (by omega) HDR.out HOT.out).mono ?_
        rintro e w2 ⟨hb2, A2, c2, B2, d2, rfl, hoa, hob⟩
        have hl1 : (becR ws rs fr ot false).1.length ≤ ws.length ∧ (becR ws rs fr ot false).2.length ≤ rs.length := becR_len
        generalize becF ws rs fr ot false = f at *
        generalize becR ws rs fr ot false = r at *
        obtain ⟨q1, q2⟩ := hl1
        obtain ⟨hia, _, hka⟩ := own_ints hoa
        obtain ⟨hib, _, hkb⟩ := own_ints hob
        have HIA := Lib.hid hia; have HIB := Lib.hid hib
        clear hoa hob hia hib
        have HH2 := Lib.hid (HHR.out.below hb2 HHR.out.lt)
        have HX2 := Lib.hid (HBR.out.trans (hb2.mono hs1))
        have HA2 := Lib.hid (HAR.out.below hb2); have HB2 := Lib.hid (HBB.out.below hb2); have HC2 := Lib.hid (HCR.out.below hb2); have HD2 := Lib.hid (HDR.out.below hb2)
        clear hb2 x1 x2 x3
        obtain ⟨x1, x2, x3⟩ := HH2.out.f1
        have hx3 : Below w2.heap.size w2 ((w2.alloc (.cells #[.slice A2 r.1.length c2] 33)).alloc (.cells #[.int .i64 f.1, .int .i64 f.2] 36)) := ((Below.refl _ _).alloc (Nat.le_refl _) _).alloc (by simp) _
        have hk3 : Blk ((w2.alloc (.cells #[.slice A2 r.1.length c2] 33)).alloc (.cells #[.int .i64 f.1, .int .i64 f.2] 36)) w2.heap.size 33 #[.slice A2 r.1.length c2] := (Blk.new _ _ _).alloc _
        have hf3 : Blk ((w2.alloc (.cells #[.slice A2 r.1.length c2] 33)).alloc (.cells #[.int .i64 f.1, .int .i64 f.2] 36)) (w2.heap.size + 1) 36 #[.int .i64 f.1, .int .i64 f.2] := by
          have := Blk.new (w2.alloc (.cells #[.slice A2 r.1.length c2] 33)) 36 #[.int .i64 f.1, .int .i64 f.2]
          simpa using this
        have HX23 := Lib.hid hx3
        have HX3 := Lib.hid (HX2.out.trans (hx3.mono HX2.out.size))
        have HH3 := Lib.hid (HH2.out.below hx3 HH2.out.lt)
        have HA3 := Lib.hid (HA2.out.below hx3); have HB3 := Lib.hid (HB2.out.below hx3); have HC3 := Lib.hid (HC2.out.below hx3); have HD3 := Lib.hid (HD2.out.below hx3)
        have HIA3 := Lib.hid (HIA.out.below hx3); have HIB3 := Lib.hid (HIB.out.below hx3)
        have HK3 := Lib.hid hk3; have HF3 := Lib.hid hf3
        clear hx3 hk3 hf3
        unfold fltV
        go_wp2_with fail
        generalize hw3 : ((w2.alloc (.cells #[.slice A2 r.1.length c2] 33)).alloc (.cells #[.int .i64 f.1, .int .i64 f.2] 36)) = w3 at *
        clear hw3
        refine (two_any ws rs fr ot A B C D c d c' d' w3 HA3.out hcap HW.out hl HB3.out HRI.out (by omega) HC3.out HFR.out (by omega) HD3.out HOT.out).mono ?_
        rintro e w4 ⟨hb4, A4, c4, B4, d4, rfl, hoa, hob⟩
        have hl1 : (becR ws rs fr ot true).1.length ≤ ws.length ∧ (becR ws rs fr ot true).2.length ≤ rs.length := becR_len
        generalize hbf : becF ws rs fr ot true = f' at *
        generalize hbr : becR ws rs fr ot true = r' at *
        have HBF := Lib.hid hbf; have HBRR := Lib.hid hbr
        obtain ⟨q3, q4⟩ := hl1
        obtain ⟨_, _, hka⟩ := own_ints hoa
        obtain ⟨_, _, hkb⟩ := own_ints hob
        have hKs : w2.heap.size + 1 < w3.heap.size := HF3.out.lt
        have hb24 : Below w2.heap.size w2 w4 := HX23.out.trans (hb4.mono (by omega))
        have hx24 : Below w2.heap.size w2 (((w4.setCell ⟨w2.heap.size, 0, none⟩ (.slice A4 r'.1.length c4)).setCell ⟨w2.heap.size + 1, 0, none⟩ (.int .i64 f'.1)).setCell ⟨w2.heap.size + 1, 1, none⟩ (.int .i64 f'.2)) := ((hb24.setCell (Nat.le_refl _) _).setCell (by dsimp only; omega) _).setCell (by dsimp only; omega) _
        have hoa' : Own (((w4.setCell ⟨w2.heap.size, 0, none⟩ (.slice A4 r'.1.length c4)).setCell ⟨w2.heap.size + 1, 0, none⟩ (.int .i64 f'.1)).setCell ⟨w2.heap.size + 1, 1, none⟩ (.int .i64 f'.2)) w3.heap.size (.slice A4 r'.1.length c4) r'.1 := ((hoa.setCell _ (fun e => by have := (hoa.lt _ e).1; dsimp only at this; omega) _).setCell _ (fun e => by have := (hoa.lt _ e).1; dsimp only at this; omega) _).setCell _ (fun e => by have := (hoa.lt _ e).1; dsimp only at this; omega) _
        have hob' : Own (((w4.setCell ⟨w2.heap.size, 0, none⟩ (.slice A4 r'.1.length c4)).setCell ⟨w2.heap.size + 1, 0, none⟩ (.int .i64 f'.1)).setCell ⟨w2.heap.size + 1, 1, none⟩ (.int .i64 f'.2)) w3.heap.size (.slice B4 r'.2.length d4) r'.2 := ((hob.setCell _ (fun e => by have := (hob.lt _ e).1; dsimp only at this; omega) _).setCell _ (fun e => by have := (hob.lt _ e).1; dsimp only at this; omega) _).setCell _ (fun e => by have := (hob.lt _ e).1; dsimp only at this; omega) _
        obtain ⟨hia, _, _⟩ := own_ints hoa'
        obtain ⟨hib, _, _⟩ := own_ints hob'
        have hk4 : Blk (((w4.setCell ⟨w2.heap.size, 0, none⟩ (.slice A4 r'.1.length c4)).setCell ⟨w2.heap.size + 1, 0, none⟩ (.int .i64 f'.1)).setCell ⟨w2.heap.size + 1, 1, none⟩ (.int .i64 f'.2)) w2.heap.size 33 #[.slice A4 r'.1.length c4] := (((HK3.out.below hb4 HK3.out.lt).set_ 0 (.slice A4 r'.1.length c4)).far (by dsimp only; omega) _).far (by dsimp only; omega) _
        have hf4 : Blk (((w4.setCell ⟨w2.heap.size, 0, none⟩ (.slice A4 r'.1.length c4)).setCell ⟨w2.heap.size + 1, 0, none⟩ (.int .i64 f'.1)).setCell ⟨w2.heap.size + 1, 1, none⟩ (.int .i64 f'.2)) (w2.heap.size + 1) 36 #[.int .i64 f'.1, .int .i64 f'.2] := (((HF3.out.below hb4 HF3.out.lt).far (by dsimp only; omega) (.slice A4 r'.1.length c4)).set_ 0 (.int .i64 f'.1)).set_ 1 (.int .i64 f'.2)
        have HH4 := Lib.hid (HH3.out.below hb4 HH3.out.lt); have HK4 := Lib.hid (HK3.out.below hb4 HK3.out.lt); have HF4 := Lib.hid (HF3.out.below hb4 HF3.out.lt)
        obtain ⟨x1, x2, x3⟩ := HH4.out.f1
        obtain ⟨y1, y2, y3⟩ := HK4.out.f1
        obtain ⟨z1, z2, z3, z4, z5⟩ := HF4.out.f2
        have HX3 := Lib.hid (HX2.out.trans (hx24.mono HX2.out.size))
        have HH3 := Lib.hid (HH2.out.below hx24 HH2.out.lt)
        have HA3 := Lib.hid (HA2.out.below hx24); have HB3 := Lib.hid (HB2.out.below hx24); have HC3 := Lib.hid (HC2.out.below hx24); have HD3 := Lib.hid (HD2.out.below hx24)
        have HIA3 := Lib.hid hia; have HIB3 := Lib.hid hib
        have HK3 := Lib.hid hk4; have HF3 := Lib.hid hf4
        have hhK : w.heap.size < w2.heap.size := HH2.out.lt
        clear hia hib hk4 hf4 hoa' hob' hx24 hb24 hb4 hoa hob hbf hbr
        unfold fltV
        go_wp2_with fail
        clear y1 y2 y3 z1 z2 z3 z4 z5 hKs
        generalize (((w4.setCell ⟨w2.heap.size, 0, none⟩ (.slice A4 r'.1.length c4)).setCell ⟨w2.heap.size + 1, 0, none⟩ (.int .i64 f'.1)).setCell ⟨w2.heap.size + 1, 1, none⟩ (.int .i64 f'.2)) = wq at *
        generalize w2.heap.size = K at *
        refine (rroots_any ws rs A B c d wq HA3.out HW.out hl HB3.out HRI.out hrl).mono ?_
        rintro e w5 ⟨rfl, hb5⟩
        have HX5 := Lib.hid (HX3.out.trans (hb5.mono HX3.out.size))
        have HA5 := Lib.hid (HA3.out.below hb5); have HB5 := Lib.hid (HB3.out.below hb5); have HC5 := Lib.hid (HC3.out.below hb5); have HD5 := Lib.hid (HD3.out.below hb5)
        have HIA5 := Lib.hid (HIA3.out.below hb5); have HIB5 := Lib.hid (HIB3.out.below hb5)
        have HH5 := Lib.hid (HH3.out.below hb5 HH3.out.lt); have HK5 := Lib.hid (HK3.out.below hb5 HK3.out.lt); have HF5 := Lib.hid (HF3.out.below hb5 HF3.out.lt)
        clear hb5 x1 x2 x3
        obtain ⟨x1, x2, x3⟩ := HH5.out.f1
        obtain ⟨y1, y2, y3⟩ := HK5.out.f1
        obtain ⟨z1, z2, z3, z4, z5⟩ := HF5.out.f2
        cases hc : ((rootsF ws rs).1 == 0)
        · have hne : (rootsF ws rs).1 ≠ 0 := by simpa using hc
          have hfe := becF_one (fr := fr) (ot := ot) (both := true) hne
          have e1 : rootsF ws rs = f' := hfe.symm.trans HBF.out
          have e2 : ([], []) = r' := (becR_err (by rw [hfe]; exact hne)).symm.trans HBRR.out
          subst e1 e2
          have hc2 : ((rootsF ws rs).1 != 0) = true := by simpa using hne
          clear hne hfe
          unfold fltV
          go_wp2_with fail
          exact ⟨⟨2, by rfl, by omega, HX5.out.alloc HX5.out.size _⟩, by simp [intOf]⟩
        · have h0 : (rootsF ws rs).1 = 0 := by simpa using hc
          obtain ⟨hokh, hokb, _, _, hz⟩ := rootsF_zero h0
          have hfe := (becF_two (fr := fr) (ot := ot) (both := true) h0).symm.trans HBF.out
          have HFE := Lib.hid hfe
          have HOK := Lib.hid hokh
          rw [hz]
          have hqq : ws.length ≤ 2000 := hokh.most
          obtain ⟨b, o, rfl, hlt, hrow⟩ := HA5.out (by have := hokh.two; omega)
          have HROW := Lib.hid hrow
          clear h0 hokh hokb hz hfe hrow hc
          unfold fltV
          go_wp2_with fail
          have hx6 : Below w5.heap.size w5 (w5.alloc (.cells #[.int .i64 0, .int .i64 0] 36)) := (Below.refl _ _).alloc (Nat.le_refl _) _
          have hn6 := Blk.new w5 36 #[.int .i64 0, .int .i64 0]
          refine (rwrong_any ws fr ot b o c C D c' d' true _ (HROW.out.below hx6 hlt) (by simp; omega) HW.out HOK.out (HC5.out.below hx6) HFR.out (by omega) (HD5.out.below hx6) HOT.out).mono ?_
          rintro e w6 ⟨rfl, hb6⟩
          have hb56 := hx6.trans (hb6.mono hx6.size)
          have HX6 := Lib.hid (HX5.out.trans (hb56.mono HX5.out.size))
          have HB6 := Lib.hid (HB5.out.below hb56); have HC6 := Lib.hid (HC5.out.below hb56); have HD6 := Lib.hid (HD5.out.below hb56)
          have HIA6 := Lib.hid (HIA5.out.below hb56); have HIB6 := Lib.hid (HIB5.out.below hb56)
          have HH6 := Lib.hid (HH5.out.below hb56 HH5.out.lt); have HK6 := Lib.hid (HK5.out.below hb56 HK5.out.lt); have HF6 := Lib.hid (HF5.out.below hb56 HF5.out.lt)
          have HR6 := Lib.hid (HROW.out.below hb56 hlt)
          have HN6 := Lib.hid (hn6.below hb6 hn6.lt)
          have hlt6 : b < w6.heap.size := Nat.lt_of_lt_of_le hlt hb56.size
          have hn5 : w1.heap.size ≤ w5.heap.size := HX5.out.size
          have hw6 : w1.heap.size ≤ w6.heap.size := HX6.out.size
          have hk5 : K + 1 < w5.heap.size := HF5.out.lt
          have hh5 : w.heap.size < w5.heap.size := HH5.out.lt
          have hx57 : Below w5.heap.size w5 ((w6.setCell ⟨w5.heap.size, 0, none⟩ (.int .i64 0)).setCell ⟨w5.heap.size, 1, none⟩ (.int .i64 0)) := (hb56.setCell (Nat.le_refl _) _).setCell (Nat.le_refl _) _
          have HX7 := Lib.hid (HX5.out.trans (hx57.mono hn5))
          have HB7 := Lib.hid (HB5.out.below hx57); have HC7 := Lib.hid (HC5.out.below hx57); have HD7 := Lib.hid (HD5.out.below hx57)
          have HIA7 := Lib.hid (HIA5.out.below hx57); have HIB7 := Lib.hid (HIB5.out.below hx57)
          have HK7 := Lib.hid (HK5.out.below hx57 HK5.out.lt); have HF7 := Lib.hid (HF5.out.below hx57 HF5.out.lt)
          have HR7 := Lib.hid (HROW.out.below hx57 hlt)
          clear hb6 hb56 hx6 hn6 hx57 x1 x2 x3 y1 y2 y3 z1 z2 z3 z4 z5
          generalize w5.heap.size = N at *
          obtain ⟨x1, x2, x3⟩ := HH6.out.f1
          obtain ⟨y1, y2, y3⟩ := HK6.out.f1
          obtain ⟨z1, z2, z3, z4, z5⟩ := HF6.out.f2
          obtain ⟨v1, v2, v3, v4, v5⟩ := HN6.out.f2
          cases hc : ((wrongF ws fr ot true).1 != 0)
          · have e0 : wrongF ws fr ot true = (0, 0) := (wrongF_zero (by simpa using hc)).2.2
            have hge : fr.length ≤ ot.length := Nat.le_of_eq (wrongF_zero (by simpa using hc)).1
            have e1 : ((0 : Int), 0) = f' := e0.symm.trans HFE.out
            have e2 := (becR_zero (by rw [HBF.out, ← e1])).symm.trans HBRR.out
            rw [e0]
            subst e1 e2
            clear e0 hc
            unfold fltV
            go_wp2_with fail
            refine (rbecome_any ws rs fr ot b o c B C D d c' d' true _ HR7.out (by simpa using hlt6) HOK.out HW.out HB7.out HRI.out (by omega) HC7.out HFR.out (by omega) HD7.out HOT.out hge (fun x => other_bd HFR.out HOT.out true x)).mono ?_
            rintro e w8 ⟨hb8, A8, c8, B8, d8, rfl, ho8, hp8⟩
            obtain ⟨hi8, _, hk8⟩ := own_ints ho8
            obtain ⟨hj8, _, hm8⟩ := own_ints hp8
            have hyl : (rs.map (other fr ot true)).length = rs.length := by simp
            have HYL := Lib.hid hyl
            clear hyl
            generalize exchF (other fr ot true) ws (places ws) = X at *
            generalize rs.map (other fr ot true) = Y at *
            have HI8 := Lib.hid hi8; have HJ8 := Lib.hid hj8
            have HX8 := Lib.hid (HX7.out.trans (hb8.mono HX7.out.size))
            have HIA8 := Lib.hid (HIA7.out.below hb8); have HIB8 := Lib.hid (HIB7.out.below hb8)
            have HK8 := Lib.hid (HK7.out.below hb8 HK7.out.lt); have HF8 := Lib.hid (HF7.out.below hb8 HF7.out.lt)
            clear hb8 ho8 hp8 hi8 hj8 x1 x2 x3 y1 y2 y3 z1 z2 z3 z4 z5 v1 v2 v3 v4 v5
            obtain ⟨y1, y2, y3⟩ := HK8.out.f1
            go_wp2_with fail
            have hx8 : Below w8.heap.size w8 (w8.alloc (.cells #[.slice A8 X.length c8] 33)) := (Below.refl _ _).alloc (Nat.le_refl _) _
            refine (heaps_any X X A4 A8 c4 c8 _ (HIA8.out.below hx8) (HI8.out.below hx8) (by omega)).mono ?_
            rintro e w9 ⟨rfl, hb9⟩
            rw [eqB_self]
            have hb89 := hx8.trans (hb9.mono hx8.size)
            have HX9 := Lib.hid (HX8.out.trans (hb89.mono HX8.out.size))
            have HIB9 := Lib.hid (HIB8.out.below hb89); have HJ9 := Lib.hid (HJ8.out.below hb89)
            have HF9 := Lib.hid (HF8.out.below hb89 HF8.out.lt)
            clear hb89 hb9 hx8 y1 y2 y3
            obtain ⟨z1, z2, z3, z4, z5⟩ := HF9.out.f2
            go_wp2_with fail
            have h45 : Calls Try.prog 45 #[.slice B4 rs.length d4, .slice B8 Y.length d8] w9 fun e w' => e = .returned (.bool true) ∧ ∃ m, w' = w9.drewN m := by
              have h := ints_any Y Y B4 B8 d4 d8 w9 HIB9.out HJ9.out (by have := HYL.out; omega)
              rw [eqB_self] at h
              rw [← HYL.out]
              exact h
            refine h45.mono ?_
            rintro e w10 ⟨rfl, n, rfl⟩
            go_wp2_with fail
            exact ⟨⟨2, by rfl, by omega, HX9.out.trans (belowN _ _ _)⟩, by simp [intOf]⟩
          · have hne : (wrongF ws fr ot true).1 ≠ 0 := by simpa using hc
            have e1 := HFE.out
            have e2 : ([], []) = r' := (becR_err (by rw [HBF.out, ← e1]; exact hne)).symm.trans HBRR.out
            subst e1 e2
            clear hne
            unfold fltV
            go_wp2_with fail
            exact ⟨⟨2, by rfl, by omega, (HX6.out.setCell hn5 _).setCell hn5 _⟩, by simp [intOf]⟩
      · obtain rfl : m = 2 := by omega
        go_wp2
        go_ret
        exact ⟨rfl, HX1.out.trans (HBR.out.mono HX1.out.size)⟩
end Go.Proofs.Ytjpppdacamhhfaa
