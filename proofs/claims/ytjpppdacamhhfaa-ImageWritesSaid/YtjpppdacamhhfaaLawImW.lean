/- What ImageWrites' code computes. Conditions: the words are numbers of 64 bits. -/
import Derived.Test.YtjpppdacamhhfaaLawImB
import Derived.Test.YtjpppdacamhhfaaImRw
namespace Go.Proofs.Ytjpppdacamhhfaa
open Go.RowKit
set_option linter.unusedVariables false

set_option maxRecDepth 100000 in
set_option maxHeartbeats 4000000 in
theorem imageWrites_walk (ws : List Int) (A : Option Addr) (c : Nat) (rs : List Int) (B : Option Addr) (d : Nat) (w : World)
    (hA : Ints w A ws) (hcap : ws.length ≤ c) (hw : I64 ws) (hl : ws.length ≤ 9223372036854775807) (hB : Ints w B rs) (hcapB : rs.length ≤ d) (hr : I64 rs) (hrl : rs.length ≤ 9223372036854775807) :
    Calls Try.prog 17 #[.agg #[.slice A ws.length c], .slice B rs.length d] w fun e w' => e = .returned (.bool true) ∧ Below w.heap.size w w' := by
  have hx0 : Below w.heap.size w (w.alloc (.cells #[.slice A ws.length c] 33)) := (Below.refl _ _).alloc (Nat.le_refl _) _
  have HX0 := Lib.hid hx0
  have HA := Lib.hid hA; have HB := Lib.hid hB
  have HW := Lib.hid hw; have HR := Lib.hid hr
  have HH := Lib.hid (Blk.new w 33 #[.slice A ws.length c])
  clear hx0 hA hB hw hr
  have hv := vastv_any ws rs [] A B none c d 0 (w.alloc (.cells #[.slice A ws.length c] 33))
  have HV := Lib.hid hv; clear hv
  by_cases hbig : 5000 < ws.length ∨ 5000 < rs.length
  · have hvv : (decide (5000 < ws.length) || decide (5000 < rs.length) || decide (5000 < ([] : List Int).length)) = true := by
      simp only [Bool.or_eq_true, decide_eq_true_eq]; omega
    rw [hvv] at HV
    clear hbig hvv
    go_enter Try.func17, Try.ntmps17
    go_wp2_with (go_at_call 53; refine HV.out.mono ?_; rintro e w1 ⟨rfl, hb1⟩; have HB1 := Lib.hid hb1; clear hb1)
    go_ret
    exact ⟨rfl, HX0.out.trans (HB1.out.mono (by simp))⟩
  have s1 : ws.length ≤ 5000 := by omega
  have s2 : rs.length ≤ 5000 := by omega
  have hvv : (decide (5000 < ws.length) || decide (5000 < rs.length) || decide (5000 < ([] : List Int).length)) = false := by
    simp only [Bool.or_eq_false_iff, decide_eq_false_iff_not, List.length_nil]; omega
  rw [hvv] at HV
  clear hvv hbig
  go_enter Try.func17, Try.ntmps17
  go_wp2_with fail
  refine HV.out.mono ?_
  rintro e w1 ⟨rfl, hb1⟩
  have HX1 := Lib.hid (HX0.out.trans (hb1.mono (by simp)))
  have HH1 := Lib.hid (HH.out.below hb1 HH.out.lt)
  obtain ⟨x1, x2, x3⟩ := HH1.out.f1
  clear hb1 HX0 HH HV
  go_wp2_with fail
  refine (write_any ws rs A B c d w1 (HA.out.below HX1.out) hcap HW.out hl (HB.out.below HX1.out) HR.out (by omega)).mono ?_
  rintro e w2 ⟨hb2, hcase⟩
  have HX2 := Lib.hid (HX1.out.trans (hb2.mono HX1.out.size))
  have HH2 := Lib.hid (HH1.out.below hb2 HH1.out.lt)
  obtain ⟨u1, u2, u3⟩ := HH2.out.f1
  have hHlt : w.heap.size < w2.heap.size := HH2.out.lt
  clear hb2 x1 x2 x3 HX1 HH1
  by_cases hok : (wrF ws rs).1 = 0
  case neg =>
    obtain ⟨-, rfl⟩ := hcase.resolve_right (fun h => hok h.1)
    have hx3 : Below w2.heap.size w2 (w2.alloc (.cells #[.int .i64 (wrF ws rs).1, .int .i64 (wrF ws rs).2] 36)) := (Below.refl _ _).alloc (Nat.le_refl _) _
    have HX3 := Lib.hid (HX2.out.trans (hx3.mono HX2.out.size))
    have HF3 := Lib.hid (Blk.new w2 36 #[.int .i64 (wrF ws rs).1, .int .i64 (wrF ws rs).2])
    have hs3 : w2.heap.size < (w2.alloc (.cells #[.int .i64 (wrF ws rs).1, .int .i64 (wrF ws rs).2] 36)).heap.size := by simp
    clear hcase hx3
    unfold fltV
    go_wp2_with fail
    clear u1 u2 u3
    generalize (w2.alloc (.cells #[.int .i64 (wrF ws rs).1, .int .i64 (wrF ws rs).2] 36)) = w3 at *
    generalize w2.heap.size = F at *
    refine (rroots_any ws rs A B c d w3 (HA.out.below HX3.out) HW.out hl (HB.out.below HX3.out) HR.out hrl).mono ?_
    rintro e w4 ⟨rfl, hb4⟩
    have HX4 := Lib.hid (HX3.out.trans (hb4.mono HX3.out.size))
    obtain ⟨y1, y2, y3, y4, y5⟩ := (HF3.out.below hb4 HF3.out.lt).f2
    have hx5 := HX4.out.alloc HX4.out.size (.cells #[.int .i64 (rootsF ws rs).1, .int .i64 (rootsF ws rs).2] 36)
    have HX5 := Lib.hid hx5
    clear hb4 hx5
    by_cases hrz : (rootsF ws rs).1 = 0
    · have h6 : 600 < rs.length := Classical.byContradiction fun h => hok (by unfold wrF; rw [if_neg (fun e => h e.2)]; exact hrz)
      have hwf : wrF ws rs = (1, 0) := if_pos ⟨hrz, h6⟩
      obtain ⟨-, -, -, -, hz⟩ := rootsF_zero hrz
      have hi6 : (600 : Int) < (rs.length : Int) := by omega
      rw [hwf] at y1 y2
      rw [hz] at HX5 ⊢
      dsimp only at y1 y2 HX5
      have hn5 := Blk.new w4 36 #[.int .i64 0, .int .i64 0]
      obtain ⟨n1, n2, n3, n4, n5⟩ := hn5.f2
      clear hok hwf hz hrz hn5
      unfold fltV
      dsimp only
      go_wp2_with fail
      go_ret
      exact ⟨rfl, HX4.out.alloc HX4.out.size _⟩
    · have hwf : wrF ws rs = rootsF ws rs := if_neg (fun e => hrz e.1)
      rw [hwf] at y1 y2
      have hc1 : ((rootsF ws rs).1 == 0) = false := by simpa using hrz
      have hc2 : ((rootsF ws rs).1 != 0) = true := by simpa using hrz
      clear hok hwf hrz
      unfold fltV
      go_wp2_with fail
      go_ret
      exact ⟨rfl, HX5.out⟩
  obtain ⟨-, bw, cw, rfl, hbw, hrw⟩ := hcase.resolve_left (fun h => h.1 hok)
  obtain ⟨hrz, hr6⟩ := wrF_zero hok
  obtain ⟨hokh, -, -, hfit, hz⟩ := rootsF_zero hrz
  have HRZ := Lib.hid hrz; have HZ := Lib.hid hz
  have hq1 := hokh.most
  have HBK := Lib.hid (img_fore hrz hr6)
  have hpos : 0 < (imgB ws rs).length := by unfold imgB; simp
  have himl : (imgB ws rs).length ≤ 1000000 := by
    unfold imgB
    rw [List.length_append, List.length_append]
    have h1 := listB_len HW.out (by omega : ws.length ≤ 1000000); have h2 := listB_len HR.out (by omega : rs.length ≤ 1000000)
    show 2 + _ + _ ≤ _; omega
  have HROW := Lib.hid hrw
  have hi6 : ¬ (600 : Int) < (rs.length : Int) := by omega
  have hx3 : Below w2.heap.size w2 (w2.alloc (.cells #[.int .i64 0, .int .i64 0] 36)) := (Below.refl _ _).alloc (Nat.le_refl _) _
  have HX23 := Lib.hid hx3
  have HX3 := Lib.hid (HX2.out.trans (hx3.mono HX2.out.size))
  have HF3 := Lib.hid (Blk.new w2 36 #[.int .i64 0, .int .i64 0])
  have HH3 := Lib.hid (HH2.out.below hx3 HH2.out.lt)
  have hs3 : w2.heap.size < (w2.alloc (.cells #[.int .i64 0, .int .i64 0] 36)).heap.size := by simp
  have HROW3 := Lib.hid (hrw.below hx3 hbw)
  clear hcase hx3 hokh hfit hz hrz hok hrw
  unfold fltV
  go_wp2_with fail
  clear u1 u2 u3
  have hbw3 : bw < (w2.alloc (.cells #[.int .i64 0, .int .i64 0] 36)).heap.size := by omega
  generalize (w2.alloc (.cells #[.int .i64 0, .int .i64 0] 36)) = w3 at *
  generalize w2.heap.size = F at *
  refine (rroots_any ws rs A B c d w3 (HA.out.below HX3.out) HW.out hl (HB.out.below HX3.out) HR.out hrl).mono ?_
  rintro e w4 ⟨rfl, hb4⟩
  rw [HZ.out]
  have hx5 : Below w4.heap.size w4 (w4.alloc (.cells #[.int .i64 0, .int .i64 0] 36)) := (Below.refl _ _).alloc (Nat.le_refl _) _
  have hb35 := hb4.trans (hx5.mono hb4.size)
  have HX5 := Lib.hid (HX3.out.trans (hb35.mono HX3.out.size))
  have HF5 := Lib.hid (HF3.out.below hb35 HF3.out.lt); have HH5 := Lib.hid (HH3.out.below hb35 HH3.out.lt)
  have HROW5 := Lib.hid (HROW3.out.below hb35 hbw3)
  have hbw5 : bw < (w4.alloc (.cells #[.int .i64 0, .int .i64 0] 36)).heap.size := Nat.lt_of_lt_of_le hbw3 hb35.size
  obtain ⟨x1, x2, x3⟩ := (HH3.out.below hb4 HH3.out.lt).f1
  obtain ⟨n1, n2, n3, n4, n5⟩ := (Blk.new w4 36 #[.int .i64 0, .int .i64 0]).f2
  clear hx5 hb35 hb4 HX3 HF3 HH3 HROW3 HROW HX2 HH2 HX23
  unfold fltV
  dsimp only
  go_wp2_with fail
  clear x1 x2 x3 n1 n2 n3 n4 n5
  generalize (w4.alloc (.cells #[.int .i64 0, .int .i64 0] 36)) = w5 at *
  refine (rwrite_any ws rs A B c d w5 (HA.out.below HX5.out) HW.out (by omega) (HB.out.below HX5.out) HR.out (by omega)).mono ?_
  rintro e w6 ⟨v6, rfl, ho6, hb6⟩
  obtain ⟨A6, c6, rfl, hi6', -, -⟩ := ho6.form2
  obtain ⟨b6, o6, rfl, hb6lt, hr6'⟩ := hi6' hpos
  have HX6 := Lib.hid (HX5.out.trans (hb6.mono HX5.out.size))
  have HF6 := Lib.hid (HF5.out.below hb6 HF5.out.lt); have HH6 := Lib.hid (HH5.out.below hb6 HH5.out.lt)
  have hrow6 := HROW5.out.below hb6 hbw5
  have HROW6 := Lib.hid hrow6
  have hbw6 : bw < w6.heap.size := Nat.lt_of_lt_of_le hbw5 hb6.size
  have hv1 := conv_bytes (c := cw) hrow6
  have hv2 := conv_bytes (c := c6) hr6'
  have hss : ((strOfNums (imgB ws rs)).toList == (strOfNums (imgB ws rs)).toList) = true := by simp
  obtain ⟨y1, y2, y3, y4, y5⟩ := HF6.out.f2
  clear hb6 hi6' hr6' ho6 hrow6 HX5 HF5 HH5 HROW5
  go_wp2_with fail
  clear hv1 hv2 hss y1 y2 y3 y4 y5
  refine (read_any (imgB ws rs) (some ⟨bw, 0, none⟩) cw w6 (fun _ => ⟨bw, 0, rfl, hbw6, HROW6.out⟩) (by omega) (imgB_range HW.out HR.out ws rs)).mono ?_
  rintro e w8 ⟨v1, v2, rfl, ho1, ho2, hb8⟩
  rw [HBK.out] at *
  dsimp only at *
  obtain ⟨D1, e1, rfl, -, he1, -⟩ := ho1.form2
  obtain ⟨D2, e2, rfl, -, he2, -⟩ := ho2.form2
  have hf8 := HF6.out.below hb8 HF6.out.lt
  have s0 : w8.setCell ⟨F, 0, none⟩ (.int .i64 0) = w8 := setCell_same hf8 rfl
  have s1' : w8.setCell ⟨F, 1, none⟩ (.int .i64 0) = w8 := setCell_same hf8 rfl
  have hx9 : Below w8.heap.size w8 (w8.alloc (.cells #[.slice D1 ws.length e1] 33)) := (Below.refl _ _).alloc (Nat.le_refl _) _
  have hX8 := HX6.out.trans (hb8.mono HX6.out.size)
  have HX9 := Lib.hid (hX8.trans (hx9.mono hX8.size))
  have HF9 := Lib.hid (hf8.below hx9 hf8.lt)
  have hh8 := HH6.out.below hb8 HH6.out.lt
  have HH9 := Lib.hid (hh8.below hx9 hh8.lt)
  have HJ1 := Lib.hid ((own_ints9 ho1).1.below hx9); have HJ2 := Lib.hid ((own_ints9 ho2).1.below hx9)
  obtain ⟨y1, y2, y3, y4, y5⟩ := hf8.f2
  obtain ⟨x1, x2, x3⟩ := hh8.f1
  clear hb8 ho1 ho2 hx9 hX8 hf8 hh8 HX6 HF6 HH6 HROW6
  unfold fltV
  go_wp2_with fail
  clear s0 s1' y1 y2 y3 y4 y5 x1 x2 x3
  generalize (w8.alloc (.cells #[.slice D1 ws.length e1] 33)) = w9 at *
  refine (heaps_any ws ws D1 A e1 c w9 HJ1.out (HA.out.below HX9.out) (by omega)).mono ?_
  rintro e w10 ⟨rfl, hb10⟩
  rw [eqB_self]
  have HX10 := Lib.hid (HX9.out.trans (hb10.mono HX9.out.size))
  have HF10 := Lib.hid (HF9.out.below hb10 HF9.out.lt); have HJ210 := Lib.hid (HJ2.out.below hb10)
  clear hb10 HX9 HF9 HJ1 HJ2 HH9
  go_wp2_with fail
  refine (ints_any rs rs D2 B e2 d w10 HJ210.out (HB.out.below HX10.out) (by omega)).mono ?_
  rintro e w11 ⟨rfl, m, rfl⟩
  rw [eqB_self]
  obtain ⟨z1, z2, z3, z4, z5⟩ := (HF10.out.drewN m).f2
  go_wp2_with fail
  go_ret
  exact ⟨rfl, HX10.out.trans (belowN _ _ _)⟩
end Go.Proofs.Ytjpppdacamhhfaa
