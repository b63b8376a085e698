/- What HeapMakes' code computes. Conditions: the words are numbers of 64 bits. -/
import Derived.Test.YtjpppdacamhhfaaRNew
import Derived.Test.YtjpppdacamhhfaaRCheck
namespace Go.Proofs.Ytjpppdacamhhfaa
open Go.RowKit
set_option linter.unusedVariables false

theorem ints_of_own {w : World} {base n c : Nat} {A : Option Addr} {xs : List Int} (h : Own w base (.slice A n c) xs) : Ints w A xs ∧ n = xs.length ∧ n ≤ c := by
  obtain ⟨A', c', hv, hA, hc, hb⟩ := h.form2
  simp at hv
  obtain ⟨rfl, rfl, rfl⟩ := hv
  exact ⟨hA, rfl, hc⟩

theorem newR_ok (ws : List Int) (cl fm sz : Int) : newOut ws cl fm sz = if okB ws = true then newR ws cl fm sz else ([], 0, 7) := rfl
theorem newR_len (ws : List Int) (cl fm sz : Int) : (newR ws cl fm sz).1.length ≤ ws.length + 3 + 60 := by
  unfold newR
  by_cases h : newE ws cl fm sz = 0
  · rw [if_pos h, newW_len]
    unfold newE at h
    split at h
    · cases h
    · split at h
      · cases h
      · have : sz.toNat ≤ 60 := by omega
        omega
  · rw [if_neg h]; simp
theorem newOut_len (ws : List Int) (cl fm sz : Int) : (newOut ws cl fm sz).1.length ≤ ws.length + 63 := by
  have := newR_len ws cl fm sz
  rw [newR_ok]
  split
  · omega
  · simp

set_option maxRecDepth 100000 in
set_option maxHeartbeats 1000000 in
theorem heapMakes_walk (ws : List Int) (A : Option Addr) (c : Nat) (cl fm sz : Int) (w : World) (hA : Ints w A ws) (hcap : ws.length ≤ c) (hw : I64 ws) (hl : ws.length ≤ 9223372036854775807)
    (c1 : -9223372036854775808 ≤ cl) (c2 : cl ≤ 9223372036854775807) (f1 : -9223372036854775808 ≤ fm) (f2 : fm ≤ 9223372036854775807) (s1 : -9223372036854775808 ≤ sz) (s2 : sz ≤ 9223372036854775807) :
    Calls Try.prog 7 #[.agg #[.slice A ws.length c], .int .i64 cl, .int .i64 fm, .int .i64 sz] w fun e w' => e = .returned (.bool true) ∧ Below w.heap.size w w' := by
  by_cases hbig : 5000 < ws.length
  · go_enter Try.func7, Try.ntmps7
    go_wp2
    go_ret
    exact ⟨rfl, (Below.refl _ _).alloc (Nat.le_refl _) _⟩
  have HA := Lib.hid (hA.alloc (.cells #[.slice A ws.length c] 33)); clear hA
  have HW := Lib.hid hw; clear hw
  have hbx : Blk (w.alloc (.cells #[.slice A ws.length c] 33)) w.heap.size 33 #[.slice A ws.length c] := Blk.new _ _ _
  have HBX := Lib.hid hbx; clear hbx
  have HB0 := Lib.hid ((Below.refl w.heap.size w).alloc (Nat.le_refl _) (.cells #[.slice A ws.length c] 33))
  go_enter Try.func7, Try.ntmps7
  go_wp2_with fail
  refine (new_any ws A c cl fm sz _ HA.out hcap HW.out hl c1 c2 f1 f2 s1 s2).mono ?_
  rintro e w1 ⟨hb1, A1, k1, rfl, hown1⟩
  obtain ⟨hi1, _, hk1⟩ := ints_of_own hown1
  have HB1 := Lib.hid (HB0.out.trans (hb1.mono (by simp)))
  have HA1 := Lib.hid (HA.out.below hb1)
  have HI1 := Lib.hid hi1
  have HBX1 := Lib.hid (HBX.out.below hb1 HBX.out.lt)
  clear hb1 hown1 hi1
  obtain ⟨x1, x2, x3⟩ := HBX1.out.f1
  have hq := newOut_len ws cl fm sz
  generalize hno : newOut ws cl fm sz = r at *
  have HNO := Lib.hid hno; clear hno
  go_wp2_with fail
  have HF := Lib.hid (Blk.new w1 33 #[.slice A1 r.1.length k1])
  have HB1' := Lib.hid (HB1.out.alloc HB1.out.size (.cells #[.slice A1 r.1.length k1] 33))
  refine (rcheck_any ws A c _ (HA1.out.alloc _) HW.out hl).mono ?_
  rintro e w2 ⟨rfl, hb2⟩
  have HB2 := Lib.hid (HB1'.out.trans (hb2.mono HB1'.out.size))
  have HA2 := Lib.hid ((HA1.out.alloc (.cells #[.slice A1 r.1.length k1] 33)).below hb2)
  have HI2 := Lib.hid ((HI1.out.alloc (.cells #[.slice A1 r.1.length k1] 33)).below hb2)
  have HBX2 := Lib.hid ((HBX1.out.alloc (.cells #[.slice A1 r.1.length k1] 33)).below hb2 (HBX1.out.alloc _).lt)
  have HF2 := Lib.hid (HF.out.below hb2 HF.out.lt)
  clear hb2 x1 x2 x3
  generalize w1.heap.size = F at *
  obtain ⟨x1, x2, x3⟩ := HBX2.out.f1
  obtain ⟨y1, y2, y3⟩ := HF2.out.f1
  unfold fltV
  cases hc : ((checkF ws).1 != 0)
  · have hok : okB ws = true := by unfold okB; simpa using hc
    have HOK := Lib.hid (okB_iff.1 hok)
    have HR : Hid (r = newR ws cl fm sz) := by show _ = _; rw [← HNO.out, newR_ok, if_pos hok]
    clear hok
    obtain ⟨b, o, rfl, hlt, hrow⟩ := HA2.out (by have := HOK.out.two; omega)
    have HROW := Lib.hid hrow; clear hrow
    go_wp2_with fail
    have HB2' := Lib.hid (HB2.out.alloc HB2.out.size (.cells #[.int .i64 (checkF ws).1, .int .i64 (checkF ws).2] 36))
    have hr2 : Row (w2.alloc (.cells #[.int .i64 (checkF ws).1, .int .i64 (checkF ws).2] 36)) b o ws := HROW.out.below ((Below.refl _ _).alloc (Nat.le_refl _) _) hlt
    refine (rnew_any ws b o c cl fm sz _ hr2 (by simp; omega) HW.out HOK.out c1 c2 f1 f2 s1 s2).mono ?_
    rintro e w3 ⟨hb3, A3, k3, rfl, hown3⟩
    obtain ⟨hi3, _, hk3⟩ := ints_of_own hown3
    have HB3 := Lib.hid (HB2'.out.trans (hb3.mono HB2'.out.size))
    have HI3 := Lib.hid ((HI2.out.alloc (.cells #[.int .i64 (checkF ws).1, .int .i64 (checkF ws).2] 36)).below hb3)
    have HJ3 := Lib.hid hi3
    have HF3 := Lib.hid ((HF2.out.alloc (.cells #[.int .i64 (checkF ws).1, .int .i64 (checkF ws).2] 36)).below hb3 (HF2.out.alloc _).lt)
    clear hb3 hown3 hi3 x1 x2 x3 y1 y2 y3 hr2
    obtain ⟨y1, y2, y3⟩ := HF3.out.f1
    have hR := HR.out
    subst hR
    generalize newR ws cl fm sz = r at *
    go_wp2_with fail
    refine (heaps_any r.1 r.1 A1 A3 k1 k3 _ (HI3.out.alloc _) (HJ3.out.alloc _) (by omega)).mono ?_
    rintro e w4 ⟨rfl, hb4⟩
    rw [eqB_self]
    go_wp2
    go_ret
    exact ⟨rfl, (HB3.out.alloc HB3.out.size _).trans (hb4.mono (by have := HB3.out.size; simp; omega))⟩
  · have hok : okB ws = false := by unfold okB; simpa using hc
    have hR : ([], 0, 7) = r := by rw [← HNO.out, newR_ok, if_neg (by rw [hok]; decide)]
    subst hR
    clear hok
    go_wp2
    go_ret
    exact ⟨rfl, HB2.out.alloc HB2.out.size _⟩
end Go.Proofs.Ytjpppdacamhhfaa
