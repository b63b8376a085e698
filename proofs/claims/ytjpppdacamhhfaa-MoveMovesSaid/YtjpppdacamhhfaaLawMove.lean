/- What MoveMoves' code computes. Conditions: the words are numbers of 64 bits. -/
import Derived.Test.YtjpppdacamhhfaaMCollect
import Derived.Test.YtjpppdacamhhfaaRMove2
import Derived.Test.YtjpppdacamhhfaaVast
namespace Go.Proofs.Ytjpppdacamhhfaa
open Go.RowKit
set_option linter.unusedVariables false


set_option maxRecDepth 100000 in
set_option maxHeartbeats 1600000 in
theorem moveMoves_walk (ws : List Int) (A : Option Addr) (c : Nat) (rs : List Int) (B : Option Addr) (d : Nat) (w : World)
    (hA : Ints w A ws) (hcap : ws.length ≤ c) (hw : I64 ws) (hl : ws.length ≤ 9223372036854775807) (hB : Ints w B rs) (hcapB : rs.length ≤ d) (hr : I64 rs) (hrl : rs.length ≤ 9223372036854775807) :
    Calls Try.prog 9 #[.agg #[.slice A ws.length c], .slice B rs.length d] w fun e w' => e = .returned (.bool true) ∧ Below w.heap.size w w' := by
  have hx0 : Below w.heap.size w (w.alloc (.cells #[.slice A ws.length c] 33)) := (Below.refl _ _).alloc (Nat.le_refl _) _
  have HX0 := Lib.hid hx0
  have HA := Lib.hid (hA.below hx0); have HB := Lib.hid (hB.below hx0)
  have HW := Lib.hid hw; have HRI := Lib.hid hr
  have HH := Lib.hid (Blk.new w 33 #[.slice A ws.length c])
  clear hx0 hA hB hw hr
  have hv := vastv_any ws rs [] A B none c d 0 (w.alloc (.cells #[.slice A ws.length c] 33))
  have HV := Lib.hid hv; clear hv
  by_cases hbig : 5000 < ws.length ∨ 5000 < rs.length
  · have hvv : (decide (5000 < ws.length) || decide (5000 < rs.length) || decide (5000 < ([] : List Int).length)) = true := by
      simp only [Bool.or_eq_true, decide_eq_true_eq]; omega
    rw [hvv] at HV
    clear hbig hvv
    go_enter Try.func9, Try.ntmps9
    go_wp2_with (go_at_call 53; refine HV.out.mono ?_; rintro e w1 ⟨rfl, hb1⟩; have HB1 := Lib.hid hb1; clear hb1)
    go_ret
    exact ⟨rfl, HX0.out.trans (HB1.out.mono (by simp))⟩
  have s1 : ws.length ≤ 5000 := by omega
  have s2 : rs.length ≤ 5000 := by omega
  have hvv : (decide (5000 < ws.length) || decide (5000 < rs.length) || decide (5000 < ([] : List Int).length)) = false := by
    simp only [Bool.or_eq_false_iff, decide_eq_false_iff_not, List.length_nil]; omega
  rw [hvv] at HV
  clear hvv hbig
  go_enter Try.func9, Try.ntmps9
  go_wp2_with fail
  refine HV.out.mono ?_
  rintro e w1 ⟨rfl, hb1⟩
  have HX1 := Lib.hid (HX0.out.trans (hb1.mono (by simp)))
  have HA1 := Lib.hid (HA.out.below hb1); have HB1 := Lib.hid (HB.out.below hb1)
  have HH1 := Lib.hid (HH.out.below hb1 HH.out.lt)
  obtain ⟨x1, x2, x3⟩ := HH1.out.f1
  clear hb1
  go_wp2_with fail
  refine (mcollect_any ws rs A B c d w1 HA1.out hcap HW.out hl HB1.out HRI.out (by omega)).mono ?_
  rintro e w2 ⟨X, Y, ⟨hb2, A2, c2, B2, d2, rfl, hoa, hob⟩, hXY⟩
  have HXY := Lib.hid hXY
  obtain ⟨hia, hca, hka⟩ := own_ints' hoa
  obtain ⟨hib, hcb, hkb⟩ := own_ints' hob
  dsimp only at hia hib hka hkb hca hcb
  have HIA := Lib.hid hia; have HIB := Lib.hid hib
  have HX2 := Lib.hid (HX1.out.trans (hb2.mono HX1.out.size))
  have HA2 := Lib.hid (HA1.out.below hb2); have HB2 := Lib.hid (HB1.out.below hb2)
  have HH2 := Lib.hid (HH1.out.below hb2 HH1.out.lt)
  clear hb2 hoa hob hia hib hXY x1 x2 x3 hcb
  obtain ⟨x1, x2, x3⟩ := HH2.out.f1
  generalize hf : rootsF ws rs = f at *
  have HF := Lib.hid hf; clear hf
  have hx3 : Below w2.heap.size w2 ((w2.alloc (.cells #[.slice A2 X.length c2] 33)).alloc (.cells #[.int .i64 f.1, .int .i64 f.2] 36)) := ((Below.refl _ _).alloc (Nat.le_refl _) _).alloc (by simp) _
  have hk3 : Blk ((w2.alloc (.cells #[.slice A2 X.length c2] 33)).alloc (.cells #[.int .i64 f.1, .int .i64 f.2] 36)) w2.heap.size 33 #[.slice A2 X.length c2] := (Blk.new _ _ _).alloc _
  have hf3 : Blk ((w2.alloc (.cells #[.slice A2 X.length c2] 33)).alloc (.cells #[.int .i64 f.1, .int .i64 f.2] 36)) (w2.heap.size + 1) 36 #[.int .i64 f.1, .int .i64 f.2] := by
    have := Blk.new (w2.alloc (.cells #[.slice A2 X.length c2] 33)) 36 #[.int .i64 f.1, .int .i64 f.2]
    simpa using this
  have HX3 := Lib.hid (HX2.out.trans (hx3.mono HX2.out.size))
  have HH3 := Lib.hid (HH2.out.below hx3 HH2.out.lt)
  have HA3 := Lib.hid (HA2.out.below hx3); have HB3 := Lib.hid (HB2.out.below hx3)
  have HIA3 := Lib.hid (HIA.out.below hx3); have HIB3 := Lib.hid (HIB.out.below hx3)
  have HK3 := Lib.hid hk3; have HF3 := Lib.hid hf3
  clear hx3 hk3 hf3
  unfold fltV
  go_wp2_with fail
  generalize ((w2.alloc (.cells #[.slice A2 X.length c2] 33)).alloc (.cells #[.int .i64 f.1, .int .i64 f.2] 36)) = w3 at *
  generalize w2.heap.size = K at *
  refine (rroots_any ws rs A B c d w3 HA3.out HW.out hl HB3.out HRI.out hrl).mono ?_
  rintro e w5 ⟨rfl, hb5⟩
  rw [HF.out]
  have HX5 := Lib.hid (HX3.out.trans (hb5.mono HX3.out.size))
  have HA5 := Lib.hid (HA3.out.below hb5); have HB5 := Lib.hid (HB3.out.below hb5)
  have HIA5 := Lib.hid (HIA3.out.below hb5); have HIB5 := Lib.hid (HIB3.out.below hb5)
  have HH5 := Lib.hid (HH3.out.below hb5 HH3.out.lt); have HK5 := Lib.hid (HK3.out.below hb5 HK3.out.lt); have HF5 := Lib.hid (HF3.out.below hb5 HF3.out.lt)
  clear hb5 x1 x2 x3
  obtain ⟨x1, x2, x3⟩ := HH5.out.f1
  obtain ⟨y1, y2, y3⟩ := HK5.out.f1
  obtain ⟨z1, z2, z3, z4, z5⟩ := HF5.out.f2
  cases hc : (f.1 == 0)
  · have hne : f.1 ≠ 0 := by simpa using hc
    have hc2 : (f.1 != 0) = true := by simpa using hne
    obtain ⟨-, rfl, rfl⟩ := HXY.out.resolve_right (fun h => hne h.1)
    clear hne
    unfold fltV
    go_wp2_with fail
    go_ret
    exact ⟨rfl, HX5.out.alloc HX5.out.size _⟩
  · have h0 : f.1 = 0 := by simpa using hc
    have hrz := rootsF_zero (ws := ws) (rs := rs) (by rw [HF.out]; exact h0)
    obtain ⟨hokh, hokb, _, hfit, hz⟩ := hrz
    obtain ⟨-, hxy⟩ := HXY.out.resolve_left (fun h => h.1 h0)
    have hz0 : f = (0, 0) := HF.out.symm.trans hz
    subst hz0
    have HOK := Lib.hid hokh; have HFIT := Lib.hid hfit; have HXY2 := Lib.hid hxy
    have hqq : ws.length ≤ 2000 := hokh.most
    obtain ⟨b, o, rfl, hlt, hrow⟩ := HA5.out (by have := hokh.two; omega)
    have HROW := Lib.hid hrow
    clear h0 hokh hokb hz hrow hc hfit hxy HF HXY
    dsimp only at *
    unfold fltV
    go_wp2_with fail
    have hx6 : Below w5.heap.size w5 (w5.alloc (.cells #[.int .i64 0, .int .i64 0] 36)) := (Below.refl _ _).alloc (Nat.le_refl _) _
    refine (rmove_any ws rs b o c B d _ (HROW.out.below hx6 hlt) (by simp; omega) HOK.out HW.out hcap (HB5.out.below hx6) HRI.out (by omega) HFIT.out).mono ?_
    rintro e w6 ⟨k, hk, hb6, A6, c6, B6, d6, rfl, ho6, hp6⟩
    obtain ⟨hi6, _, _⟩ := own_ints' ho6
    obtain ⟨hj6, _, _⟩ := own_ints' hp6
    obtain ⟨k1, hk1, hX1, hY1⟩ := HXY2.out
    obtain rfl : k = k1 := chen_one hk hk1
    have hs1 : OrdOf ws rs (chen ws rs k) := chen_ord hk
    subst hX1 hY1
    have hb56 := hx6.trans (hb6.mono hx6.size)
    have HX6 := Lib.hid (HX5.out.trans (hb56.mono HX5.out.size))
    have HIA6 := Lib.hid (HIA5.out.below hb56); have HIB6 := Lib.hid (HIB5.out.below hb56)
    have HK6 := Lib.hid (HK5.out.below hb56 HK5.out.lt); have HF6 := Lib.hid (HF5.out.below hb56 HF5.out.lt)
    have hxl : (arrW ws (chen ws rs k)).length ≤ 1000000 := (Nat.le_trans (arr_len_le HOK.out HFIT.out hs1) (by omega))
    have hyl : (arrR ws rs (chen ws rs k)).length = rs.length := by unfold arrR; simp
    have HI6 := Lib.hid hi6; have HJ6 := Lib.hid hj6
    clear hb56 hb6 hx6 ho6 hp6 hi6 hj6 x1 x2 x3 y1 y2 y3 z1 z2 z3 z4 z5
    generalize (arrW ws (chen ws rs k)) = X at *
    generalize (arrR ws rs (chen ws rs k)) = Y at *
    have HYL := Lib.hid hyl
    clear hyl
    obtain ⟨y1, y2, y3⟩ := HK6.out.f1
    go_wp2_with fail
    have hx7 : Below w6.heap.size w6 (w6.alloc (.cells #[.slice A6 X.length c6] 33)) := (Below.refl _ _).alloc (Nat.le_refl _) _
    refine (heaps_any X X A2 A6 c2 c6 _ (HIA6.out.below hx7) (HI6.out.below hx7) (by omega)).mono ?_
    rintro e w8 ⟨rfl, hb8⟩
    rw [eqB_self]
    have hb68 := hx7.trans (hb8.mono hx7.size)
    have HX8 := Lib.hid (HX6.out.trans (hb68.mono HX6.out.size))
    have HIB8 := Lib.hid (HIB6.out.below hb68); have HJ8 := Lib.hid (HJ6.out.below hb68)
    have HF8 := Lib.hid (HF6.out.below hb68 HF6.out.lt)
    clear hb68 hb8 hx7 y1 y2 y3
    obtain ⟨z1, z2, z3, z4, z5⟩ := HF8.out.f2
    go_wp2_with fail
    have h45 := ints_any Y Y B2 B6 d2 d6 w8 HIB8.out HJ8.out (by have := HYL.out; omega)
    rw [eqB_self] at h45
    refine h45.mono ?_
    rintro e w9 ⟨rfl, n, rfl⟩
    go_wp2_with fail
    go_ret
    exact ⟨rfl, HX8.out.trans (belowN _ _ _)⟩
end Go.Proofs.Ytjpppdacamhhfaa
