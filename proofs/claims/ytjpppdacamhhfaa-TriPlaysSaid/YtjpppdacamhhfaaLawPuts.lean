/- What HeapPuts' code computes. Conditions: the words are numbers of 64 bits. -/
import Derived.Test.YtjpppdacamhhfaaRPut
import Derived.Test.YtjpppdacamhhfaaRCheck
namespace Go.Proofs.Ytjpppdacamhhfaa
open Go.RowKit
set_option linter.unusedVariables false

/-- What Look tells: class, hash, form; the slots, the code. -/
def lkR (ws : List Int) (x : Int) : (Int × Int × Int) × (List Int × Int) :=
  if isTh ws x = true then ((nth ws (plc x), nth ws (plc x + 1), formOf ws (plc x)), (slotsL ws (plc x), 0)) else ((0, 0, 0), ([], 3))
def lkOut (ws : List Int) (x : Int) : (Int × Int × Int) × (List Int × Int) := if okB ws = true then lkR ws x else ((0, 0, 0), ([], 7))
def LookU (r : (Int × Int × Int) × (List Int × Int)) (w : World) (e : Ending) (w' : World) : Prop :=
  Below w.heap.size w w' ∧ ∃ A c, e = .returned (.tuple #[thingV r.1.1 r.1.2.1 r.1.2.2 (.slice A r.2.1.length c), .int .i64 r.2.2]) ∧ Own w' w.heap.size (.slice A r.2.1.length c) r.2.1
theorem lookU_R {ws : List Int} {x : Int} {w w' : World} {e : Ending} (h : LookR ws x w e w') : LookU (lkR ws x) w e w' := by
  obtain ⟨hb, ⟨ht, he⟩ | ⟨ht, A, c, he, ho⟩⟩ := h
  · have e1 : lkR ws x = ((0, 0, 0), ([], 3)) := by unfold lkR; rw [if_neg (by rw [ht]; decide)]
    rw [e1]; exact ⟨hb, none, 0, he, Own.nil _ _⟩
  · have e1 : lkR ws x = ((nth ws (plc x), nth ws (plc x + 1), formOf ws (plc x)), (slotsL ws (plc x), 0)) := by unfold lkR; rw [if_pos ht]
    rw [e1]; exact ⟨hb, A, c, he, ho⟩
theorem lookU_Out {ws : List Int} {x : Int} {w w' : World} {e : Ending} (h : LookOut ws x w e w') : LookU (lkOut ws x) w e w' := by
  rcases h with ⟨h0, hb, he⟩ | ⟨h0, h⟩
  · have e1 : lkOut ws x = ((0, 0, 0), ([], 7)) := by unfold lkOut; rw [if_neg (by rw [h0]; decide)]
    rw [e1]; exact ⟨hb, none, 0, he, Own.nil _ _⟩
  · have e1 : lkOut ws x = lkR ws x := by unfold lkOut; rw [if_pos h0]
    rw [e1]; exact lookU_R h
theorem slotsL_le (ws : List Int) (p : Nat) : (slotsL ws p).length ≤ ws.length := by simp [slotsL]; omega
theorem lkR_len (ws : List Int) (x : Int) : (lkR ws x).2.1.length ≤ ws.length := by
  unfold lkR
  split
  · exact slotsL_le ws _
  · simp
theorem lkOut_len (ws : List Int) (x : Int) : (lkOut ws x).2.1.length ≤ ws.length := by
  unfold lkOut
  split
  · exact lkR_len ws x
  · simp

set_option maxRecDepth 100000 in
set_option maxHeartbeats 4000000 in
theorem heapPuts_walk (ws : List Int) (A : Option Addr) (c : Nat) (x at_ what : Int) (w : World) (hA : Ints w A ws) (hcap : ws.length ≤ c) (hw : I64 ws) (hl : ws.length ≤ 9223372036854775807)
    (c1 : -9223372036854775808 ≤ x) (c2 : x ≤ 9223372036854775807) (f1 : -9223372036854775808 ≤ at_) (f2 : at_ ≤ 9223372036854775807) (s1 : -9223372036854775808 ≤ what) (s2 : what ≤ 9223372036854775807) :
    Calls Try.prog 8 #[.agg #[.slice A ws.length c], .int .i64 x, .int .i64 at_, .int .i64 what] w fun e w' => e = .returned (.bool true) ∧ Below w.heap.size w w' := by
  by_cases hbig : 5000 < ws.length
  · go_enter Try.func8, Try.ntmps8
    go_wp2
    go_ret
    exact ⟨rfl, (Below.refl _ _).alloc (Nat.le_refl _) _⟩
  have HA := Lib.hid (hA.alloc (.cells #[.slice A ws.length c] 33)); clear hA
  have HW := Lib.hid hw; clear hw
  have HH := Lib.hid (Blk.new w 33 #[.slice A ws.length c])
  have HB0 := Lib.hid ((Below.refl w.heap.size w).alloc (Nat.le_refl _) (.cells #[.slice A ws.length c] 33))
  go_enter Try.func8, Try.ntmps8
  go_wp2_with fail
  refine (lookt_any ws A c x _ HA.out hcap HW.out hl c1 c2).mono ?_
  intro e w1 h1
  obtain ⟨hb1, A1, k1, rfl, hown1⟩ := lookU_Out h1
  clear h1
  obtain ⟨hi1, _, hk1⟩ := own_ints hown1
  have hq1 := lkOut_len ws x
  generalize hno : lkOut ws x = r1 at *
  have HR1 := Lib.hid hno; clear hno
  have HB1 := Lib.hid (HB0.out.trans (hb1.mono (by simp)))
  have HA1 := Lib.hid (HA.out.below hb1)
  have HI1 := Lib.hid hi1
  have HH1 := Lib.hid (HH.out.below hb1 HH.out.lt)
  clear hb1 hown1 hi1
  obtain ⟨x1, x2, x3⟩ := HH1.out.f1
  unfold thingV
  go_wp2_with fail
  have HT := Lib.hid (Blk.new w1 48 #[.int .i64 r1.1.1, .int .i64 r1.1.2.1, .int .i64 r1.1.2.2, .slice A1 r1.2.1.length k1])
  have HB1' := Lib.hid (HB1.out.alloc HB1.out.size (.cells #[.int .i64 r1.1.1, .int .i64 r1.1.2.1, .int .i64 r1.1.2.2, .slice A1 r1.2.1.length k1] 48))
  refine (put_any ws A c x at_ what _ (HA1.out.alloc _) hcap HW.out hl c1 c2 f1 f2 s1 s2).mono ?_
  rintro e w2 ⟨hb2, A2, k2, rfl, hown2⟩
  obtain ⟨hi2, _, hk2⟩ := own_ints hown2
  have hq2 := putOut_len ws x at_ what
  generalize hno : putOut ws x at_ what = r2 at *
  have HR2 := Lib.hid hno; clear hno
  have HB2 := Lib.hid (HB1'.out.trans (hb2.mono HB1'.out.size))
  have HA2 := Lib.hid ((HA1.out.alloc (.cells #[.int .i64 r1.1.1, .int .i64 r1.1.2.1, .int .i64 r1.1.2.2, .slice A1 r1.2.1.length k1] 48)).below hb2)
  have HI2 := Lib.hid ((HI1.out.alloc (.cells #[.int .i64 r1.1.1, .int .i64 r1.1.2.1, .int .i64 r1.1.2.2, .slice A1 r1.2.1.length k1] 48)).below hb2)
  have HJ2 := Lib.hid hi2
  have HH2 := Lib.hid ((HH1.out.alloc (.cells #[.int .i64 r1.1.1, .int .i64 r1.1.2.1, .int .i64 r1.1.2.2, .slice A1 r1.2.1.length k1] 48)).below hb2 (HH1.out.alloc _).lt)
  have HT2 := Lib.hid (HT.out.below hb2 HT.out.lt)
  clear hb2 hown2 hi2 x1 x2 x3
  generalize w1.heap.size = T at *
  obtain ⟨x1, x2, x3⟩ := HH2.out.f1
  go_wp2_with fail
  have HK := Lib.hid (Blk.new w2 33 #[.slice A2 r2.1.length k2])
  have HB2' := Lib.hid (HB2.out.alloc HB2.out.size (.cells #[.slice A2 r2.1.length k2] 33))
  refine (rcheck_any ws A c _ (HA2.out.alloc _) HW.out hl).mono ?_
  rintro e w3 ⟨rfl, hb3⟩
  have HB3 := Lib.hid (HB2'.out.trans (hb3.mono HB2'.out.size))
  have HA3 := Lib.hid ((HA2.out.alloc (.cells #[.slice A2 r2.1.length k2] 33)).below hb3)
  have HI3 := Lib.hid ((HI2.out.alloc (.cells #[.slice A2 r2.1.length k2] 33)).below hb3)
  have HJ3 := Lib.hid ((HJ2.out.alloc (.cells #[.slice A2 r2.1.length k2] 33)).below hb3)
  have HH3 := Lib.hid ((HH2.out.alloc (.cells #[.slice A2 r2.1.length k2] 33)).below hb3 (HH2.out.alloc _).lt)
  have HT3 := Lib.hid ((HT2.out.alloc (.cells #[.slice A2 r2.1.length k2] 33)).below hb3 (HT2.out.alloc _).lt)
  have HK3 := Lib.hid (HK.out.below hb3 HK.out.lt)
  clear hb3 x1 x2 x3
  generalize w2.heap.size = K at *
  obtain ⟨x1, x2, x3⟩ := HH3.out.f1
  obtain ⟨t0, t1, t2, t3, t4, t5, t6, t7, t8⟩ := HT3.out.f4
  obtain ⟨y1, y2, y3⟩ := HK3.out.f1
  unfold fltV
  cases hc : ((checkF ws).1 != 0)
  · have hok : okB ws = true := by unfold okB; simpa using hc
    have HOK := Lib.hid (okB_iff.1 hok)
    have HQ1 : Hid (r1 = lkR ws x) := by show _ = _; rw [← HR1.out]; unfold lkOut; rw [if_pos hok]
    have HQ2 : Hid (r2 = putR ws x at_ what) := by show _ = _; rw [← HR2.out]; unfold putOut; rw [if_pos hok]
    clear hok
    obtain ⟨b, o, rfl, hlt, hrow⟩ := HA3.out (by have := HOK.out.two; omega)
    have HROW := Lib.hid hrow; clear hrow
    go_wp2_with fail
    have HB3' := Lib.hid (HB3.out.alloc HB3.out.size (.cells #[.int .i64 (checkF ws).1, .int .i64 (checkF ws).2] 36))
    have hr3 : Row (w3.alloc (.cells #[.int .i64 (checkF ws).1, .int .i64 (checkF ws).2] 36)) b o ws := HROW.out.below ((Below.refl _ _).alloc (Nat.le_refl _) _) hlt
    refine (rlook_any ws b o c x _ hr3 (by simp; omega) hcap HW.out HOK.out c1 c2).mono ?_
    intro e w4 h4
    obtain ⟨hb4, A4, k4, rfl, hown4⟩ := lookU_R h4
    clear h4
    obtain ⟨hi4, _, hk4⟩ := own_ints hown4
    have hq := HQ1.out
    subst hq
    generalize lkR ws x = r1 at *
    have HB4 := Lib.hid (HB3'.out.trans (hb4.mono HB3'.out.size))
    have HR4 := Lib.hid (Row.below hr3 hb4 (by simp; omega))
    have hlt4 : b < w4.heap.size := Nat.lt_of_lt_of_le hlt (by have := hb4.size; simp at this; omega)
    have HI4 := Lib.hid ((HI3.out.alloc (.cells #[.int .i64 (checkF ws).1, .int .i64 (checkF ws).2] 36)).below hb4)
    have HJ4 := Lib.hid ((HJ3.out.alloc (.cells #[.int .i64 (checkF ws).1, .int .i64 (checkF ws).2] 36)).below hb4)
    have HX4 := Lib.hid hi4
    have HH4 := Lib.hid ((HH3.out.alloc (.cells #[.int .i64 (checkF ws).1, .int .i64 (checkF ws).2] 36)).below hb4 (HH3.out.alloc _).lt)
    have HT4 := Lib.hid ((HT3.out.alloc (.cells #[.int .i64 (checkF ws).1, .int .i64 (checkF ws).2] 36)).below hb4 (HT3.out.alloc _).lt)
    have HK4 := Lib.hid ((HK3.out.alloc (.cells #[.int .i64 (checkF ws).1, .int .i64 (checkF ws).2] 36)).below hb4 (HK3.out.alloc _).lt)
    clear hb4 hown4 hi4 hr3 x1 x2 x3 t0 t1 t2 t3 t4 t5 t6 t7 t8 y1 y2 y3
    obtain ⟨x1, x2, x3⟩ := HH4.out.f1
    obtain ⟨t0, t1, t2, t3, t4, t5, t6, t7, t8⟩ := HT4.out.f4
    obtain ⟨y1, y2, y3⟩ := HK4.out.f1
    unfold thingV
    go_wp2_with (first
      | (go_at_call 45; refine (ints_any r1.2.1 r1.2.1 A1 A4 k1 k4 _ (HI4.out.alloc _) (HX4.out.alloc _) (by omega)).mono ?_; rintro e w' ⟨rfl, m, rfl⟩; rw [eqB_self])
      | fail)
    refine (rput_any ws b o c x at_ what _ (HR4.out.below (((Below.refl _ _).alloc (Nat.le_refl _) _).trans (belowN _ _ m)) hlt4) (by simp; omega) hcap HW.out HOK.out c1 c2 f1 f2 s1 s2).mono ?_
    rintro e w5 ⟨hb5, A5, k5, rfl, hown5⟩
    obtain ⟨hi5, _, hk5⟩ := own_ints hown5
    have hq := HQ2.out
    subst hq
    generalize putR ws x at_ what = r2 at *
    have hx4 : Below w4.heap.size w4 ((w4.alloc (.cells #[.int .i64 r1.1.1, .int .i64 r1.1.2.1, .int .i64 r1.1.2.2, .slice A4 r1.2.1.length k4] 48)).drewN m) := ((Below.refl _ _).alloc (Nat.le_refl _) _).trans (belowN _ _ m)
    have hb45 := hx4.trans (hb5.mono hx4.size)
    have HB5 := Lib.hid (HB4.out.trans (hb45.mono HB4.out.size))
    have HJ5 := Lib.hid (HJ4.out.below hb45)
    have HY5 := Lib.hid hi5
    have HK5 := Lib.hid (HK4.out.below hb45 HK4.out.lt)
    clear hb5 hb45 hx4 hown5 hi5 x1 x2 x3 t0 t1 t2 t3 t4 t5 t6 t7 t8 y1 y2 y3
    obtain ⟨y1, y2, y3⟩ := HK5.out.f1
    go_wp2_with (go_at_call 48; refine (heaps_any r2.1 r2.1 A2 A5 k2 k5 _ (HJ5.out.alloc _) (HY5.out.alloc _) (by omega)).mono ?_; rintro e w6 ⟨rfl, hb6⟩; rw [eqB_self])
    go_ret
    exact ⟨rfl, (HB5.out.alloc HB5.out.size _).trans (hb6.mono (by have := HB5.out.size; simp; omega))⟩
  · have hok : okB ws = false := by unfold okB; simpa using hc
    have hR1 : ((0, 0, 0), ([], 7)) = r1 := by rw [← HR1.out]; unfold lkOut; rw [if_neg (by rw [hok]; decide)]
    have hR2 : ([], 7) = r2 := by rw [← HR2.out]; unfold putOut; rw [if_neg (by rw [hok]; decide)]
    subst hR1
    subst hR2
    clear hok
    go_wp2
    go_ret
    exact ⟨rfl, HB3.out.alloc HB3.out.size _⟩
end Go.Proofs.Ytjpppdacamhhfaa
