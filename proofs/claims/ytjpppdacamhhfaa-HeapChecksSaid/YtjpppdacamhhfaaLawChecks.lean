/- What HeapChecks' code computes. Conditions: the words are numbers of 64 bits. -/
import Derived.Test.YtjpppdacamhhfaaThings
import Derived.Test.YtjpppdacamhhfaaRCheck
namespace Go.Proofs.Ytjpppdacamhhfaa
open Go.RowKit
set_option linter.unusedVariables false

set_option maxRecDepth 100000 in
set_option maxHeartbeats 1000000 in
theorem heapChecks_walk (ws : List Int) (A : Option Addr) (c : Nat) (w : World) (hA : Ints w A ws) (hcap : ws.length ≤ c) (hw : I64 ws) (hl : ws.length ≤ 9223372036854775807) :
    Calls Try.prog 6 #[.agg #[.slice A ws.length c]] w fun e w' => e = .returned (.bool true) ∧ Below w.heap.size w w' := by
  by_cases hbig : 5000 < ws.length
  · go_enter Try.func6, Try.ntmps6
    go_wp2
    go_ret
    exact ⟨rfl, (Below.refl _ _).alloc (Nat.le_refl _) _⟩
  have HA := Lib.hid (hA.alloc (.cells #[.slice A ws.length c] 33)); clear hA
  have HW := Lib.hid hw; clear hw
  have hbx : Blk (w.alloc (.cells #[.slice A ws.length c] 33)) w.heap.size 33 #[.slice A ws.length c] := Blk.new _ _ _
  have HBX := Lib.hid hbx; clear hbx
  have HB0 := Lib.hid ((Below.refl w.heap.size w).alloc (Nat.le_refl _) (.cells #[.slice A ws.length c] 33))
  go_enter Try.func6, Try.ntmps6
  go_wp2_with fail
  refine (check_any ws A c _ HA.out hcap HW.out hl).mono ?_
  rintro e w1 ⟨rfl, hb1⟩
  have HB1 := Lib.hid (HB0.out.trans (hb1.mono (by simp)))
  have HA1 := Lib.hid (HA.out.below hb1)
  have HBX1 := Lib.hid (HBX.out.below hb1 HBX.out.lt)
  clear hb1
  obtain ⟨x1, x2, x3⟩ := HBX1.out.f1
  unfold fltV
  go_wp2_with fail
  have hf : Blk (w1.alloc (.cells #[.int .i64 (checkF ws).1, .int .i64 (checkF ws).2] 36)) w1.heap.size 36 #[.int .i64 (checkF ws).1, .int .i64 (checkF ws).2] := Blk.new _ _ _
  have HF := Lib.hid hf; clear hf
  have HB1' := Lib.hid (HB1.out.alloc HB1.out.size (.cells #[.int .i64 (checkF ws).1, .int .i64 (checkF ws).2] 36))
  refine (rcheck_any ws A c _ (HA1.out.alloc _) HW.out hl).mono ?_
  rintro e w2 ⟨rfl, hb2⟩
  have HB2 := Lib.hid (HB1'.out.trans (hb2.mono HB1'.out.size))
  have HA2 := Lib.hid ((HA1.out.alloc (.cells #[.int .i64 (checkF ws).1, .int .i64 (checkF ws).2] 36)).below hb2)
  have HBX2 := Lib.hid ((HBX1.out.alloc (.cells #[.int .i64 (checkF ws).1, .int .i64 (checkF ws).2] 36)).below hb2 (HBX1.out.alloc _).lt)
  have HF2 := Lib.hid (HF.out.below hb2 HF.out.lt)
  clear hb2 x1 x2 x3
  generalize w1.heap.size = F at *
  obtain ⟨x1, x2, x3⟩ := HBX2.out.f1
  obtain ⟨y1, y2, y3, y4, y5⟩ := HF2.out.f2
  unfold fltV
  go_wp2_with fail
  have hn : Blk (w2.alloc (.cells #[.int .i64 (checkF ws).1, .int .i64 (checkF ws).2] 36)) w2.heap.size 36 #[.int .i64 (checkF ws).1, .int .i64 (checkF ws).2] := Blk.new _ _ _
  have HN := Lib.hid hn; clear hn
  have HB2' := Lib.hid (HB2.out.alloc HB2.out.size (.cells #[.int .i64 (checkF ws).1, .int .i64 (checkF ws).2] 36))
  refine (things_any ws A c _ (HA2.out.alloc _) hcap HW.out (by omega)).mono ?_
  rintro e w3 ⟨hb3, h⟩
  have HB3 := Lib.hid (HB2'.out.trans (hb3.mono HB2'.out.size))
  have HA3 := Lib.hid ((HA2.out.alloc (.cells #[.int .i64 (checkF ws).1, .int .i64 (checkF ws).2] 36)).below hb3)
  have HBX3 := Lib.hid ((HBX2.out.alloc (.cells #[.int .i64 (checkF ws).1, .int .i64 (checkF ws).2] 36)).below hb3 (HBX2.out.alloc _).lt)
  have HF3 := Lib.hid ((HF2.out.alloc (.cells #[.int .i64 (checkF ws).1, .int .i64 (checkF ws).2] 36)).below hb3 (HF2.out.alloc _).lt)
  have HN3 := Lib.hid (HN.out.below hb3 HN.out.lt)
  clear hb3 x1 x2 x3 y1 y2 y3 y4 y5
  generalize w2.heap.size = N at *
  obtain ⟨x1, x2, x3⟩ := HBX3.out.f1
  obtain ⟨y1, y2, y3, y4, y5⟩ := HF3.out.f2
  obtain ⟨z1, z2, z3, z4, z5⟩ := HN3.out.f2
  rcases h with ⟨h0, rfl⟩ | ⟨h0, A', c', rfl, hA'⟩
  · have h1 : ((checkF ws).1 != 0) = true := by unfold okB at h0; simpa using h0
    clear h0
    go_wp2
    go_ret
    exact ⟨rfl, HB3.out⟩
  · have h1 : checkF ws = (0, 0) := checkF_code (by unfold okB at h0; simpa using h0)
    have HOK := Lib.hid (okB_iff.1 h0)
    have HAA := Lib.hid hA'
    rw [h1] at y1 y2 z1 z2
    clear h0 h1 hA'
    obtain ⟨b, o, rfl, hlt, hr⟩ := HA3.out (by have := HOK.out.two; omega)
    have HR := Lib.hid hr; clear hr
    go_wp2_with fail
    refine (rthings_any ws b o c w3 HR.out hlt HW.out (by omega) HOK.out.bad).mono ?_
    rintro e w4 ⟨hb4, A4, c4, rfl, hA4⟩
    have HB4 := Lib.hid (HB3.out.trans (hb4.mono HB3.out.size))
    have HAA4 := Lib.hid (HAA.out.below hb4)
    have HA4 := Lib.hid hA4
    clear hb4 hA4
    go_wp2_with (go_at_call 45; refine (ints_any _ _ _ _ _ _ _ HAA4.out HA4.out (by rw [thingsL_len]; have := places_len ws; omega)).mono ?_; rintro e w' ⟨rfl, m, rfl⟩; rw [eqB_self])
    go_ret
    exact ⟨rfl, HB4.out.trans (belowN _ _ m)⟩
end Go.Proofs.Ytjpppdacamhhfaa
