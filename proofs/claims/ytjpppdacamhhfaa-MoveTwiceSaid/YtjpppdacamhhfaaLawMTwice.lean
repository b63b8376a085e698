/- What MoveTwice' code computes. Conditions: the words are numbers of 64 bits. -/
import Derived.Test.YtjpppdacamhhfaaMCollect
import Derived.Test.YtjpppdacamhhfaaCollect
import Derived.Test.YtjpppdacamhhfaaTSpec
import Derived.Test.YtjpppdacamhhfaaHoldSpec
import Derived.Test.YtjpppdacamhhfaaKeepsA
import Derived.Test.YtjpppdacamhhfaaVast
namespace Go.Proofs.Ytjpppdacamhhfaa
open Go.RowKit
set_option linter.unusedVariables false

theorem i64_fix (xs : List Int) (h : ∀ x ∈ xs, -9223372036854775808 ≤ x ∧ x ≤ 9223372036854775807) : I64 xs := fun j => by
  rcases Nat.lt_or_ge j xs.length with hl | hl
  · rw [nth_eq hl]; exact h _ (List.getElem_mem _)
  · rw [nth_out hl]; omega
/-- A call's three results, stored into boxes made before it. -/
theorem put_boxes {v w3 w4 : World} {K : Nat} {u a b V1 V2 : Value} {xs ys : List Int} (hv : Below v.heap.size v w3) (hK : v.heap.size ≤ K) (hk : Blk w3 K 33 #[u]) (hf : Blk w3 (K + 1) 36 #[a, b]) (hb : Below w3.heap.size w3 w4)
    (hoa : Own w4 w3.heap.size V1 xs) (hob : Own w4 w3.heap.size V2 ys) (p q : Int) :
    Below v.heap.size v (((w4.setCell ⟨K, 0, none⟩ V1).setCell ⟨K + 1, 0, none⟩ (.int .i64 p)).setCell ⟨K + 1, 1, none⟩ (.int .i64 q)) ∧
    Own (((w4.setCell ⟨K, 0, none⟩ V1).setCell ⟨K + 1, 0, none⟩ (.int .i64 p)).setCell ⟨K + 1, 1, none⟩ (.int .i64 q)) w3.heap.size V1 xs ∧
    Own (((w4.setCell ⟨K, 0, none⟩ V1).setCell ⟨K + 1, 0, none⟩ (.int .i64 p)).setCell ⟨K + 1, 1, none⟩ (.int .i64 q)) w3.heap.size V2 ys ∧
    Blk (((w4.setCell ⟨K, 0, none⟩ V1).setCell ⟨K + 1, 0, none⟩ (.int .i64 p)).setCell ⟨K + 1, 1, none⟩ (.int .i64 q)) K 33 #[V1] ∧
    Blk (((w4.setCell ⟨K, 0, none⟩ V1).setCell ⟨K + 1, 0, none⟩ (.int .i64 p)).setCell ⟨K + 1, 1, none⟩ (.int .i64 q)) (K + 1) 36 #[.int .i64 p, .int .i64 q] := by
  have hlt := hf.lt
  have hn : ∀ {V zs}, Own w4 w3.heap.size V zs → ∀ k, V.ownBlock = some k → w3.heap.size ≤ k := fun h k e => (h.lt _ e).1
  refine ⟨(((hv.trans (hb.mono hv.size)).setCell (by dsimp only; omega) _).setCell (by dsimp only; omega) _).setCell (by dsimp only; omega) _, ?_, ?_, ?_, ?_⟩
  · exact ((hoa.setCell _ (fun e => by have := hn hoa _ e; dsimp only at this; omega) _).setCell _ (fun e => by have := hn hoa _ e; dsimp only at this; omega) _).setCell _ (fun e => by have := hn hoa _ e; dsimp only at this; omega) _
  · exact ((hob.setCell _ (fun e => by have := hn hob _ e; dsimp only at this; omega) _).setCell _ (fun e => by have := hn hob _ e; dsimp only at this; omega) _).setCell _ (fun e => by have := hn hob _ e; dsimp only at this; omega) _
  · exact (((hk.below hb hk.lt).set_ 0 V1).far (by dsimp only; omega) _).far (by dsimp only; omega) _
  · exact (((hf.below hb hf.lt).far (by dsimp only; omega) V1).set_ 0 (.int .i64 p)).set_ 1 (.int .i64 q)

theorem fix_move : rootsF [0, 3, 0, 1, 4, 0, 0, 2, 4, 4] [12] = (0, 0) ∧ chen [0, 3, 0, 1, 4, 0, 0, 2, 4, 4] [12] 2 = [6, 2] ∧ arrW [0, 3, 0, 1, 4, 0, 0, 2, 4, 4] [6, 2] = [0, 3, 0, 2, 4, 12, 0, 1, 4, 0] ∧ arrR [0, 3, 0, 1, 4, 0, 0, 2, 4, 4] [12] [6, 2] = [4] := by decide +kernel
theorem fix_worldM (v : World) (n : Nat) (hn : v.heap.size = n) :
    Ints ((v.alloc (.cells #[.int .i64 0, .int .i64 3, .int .i64 0, .int .i64 1, .int .i64 4, .int .i64 0, .int .i64 0, .int .i64 2, .int .i64 4, .int .i64 4] 3)).alloc (.cells #[.int .i64 12] 3)) (some ⟨n, 0, none⟩) [0, 3, 0, 1, 4, 0, 0, 2, 4, 4] ∧ Ints ((v.alloc (.cells #[.int .i64 0, .int .i64 3, .int .i64 0, .int .i64 1, .int .i64 4, .int .i64 0, .int .i64 0, .int .i64 2, .int .i64 4, .int .i64 4] 3)).alloc (.cells #[.int .i64 12] 3)) (some ⟨n + 1, 0, none⟩) [12] ∧ Below n v ((v.alloc (.cells #[.int .i64 0, .int .i64 3, .int .i64 0, .int .i64 1, .int .i64 4, .int .i64 0, .int .i64 0, .int .i64 2, .int .i64 4, .int .i64 4] 3)).alloc (.cells #[.int .i64 12] 3)) := by
  subst hn
  refine ⟨(ints_new v [0, 3, 0, 1, 4, 0, 0, 2, 4, 4]).alloc _, ?_, ((Below.refl _ _).alloc (Nat.le_refl _) _).alloc (by simp) _⟩
  have h := ints_new (v.alloc (.cells #[.int .i64 0, .int .i64 3, .int .i64 0, .int .i64 1, .int .i64 4, .int .i64 0, .int .i64 0, .int .i64 2, .int .i64 4, .int .i64 4] 3)) [12]
  simp only [World.size_alloc] at h
  exact h

set_option maxRecDepth 100000 in
set_option maxHeartbeats 1600000 in
theorem moveTwice_walk (ws : List Int) (A : Option Addr) (c : Nat) (rs : List Int) (B : Option Addr) (d : Nat) (w : World)
    (hA : Ints w A ws) (hcap : ws.length ≤ c) (hw : I64 ws) (hl : ws.length ≤ 9223372036854775807) (hB : Ints w B rs) (hcapB : rs.length ≤ d) (hr : I64 rs) (hrl : rs.length ≤ 9223372036854775807) :
    Calls Try.prog 21 #[.agg #[.slice A ws.length c], .slice B rs.length d] w fun e w' => e = .returned (.bool true) ∧ Below w.heap.size w w' := by
  have hx0 : Below w.heap.size w (w.alloc (.cells #[.slice A ws.length c] 33)) := (Below.refl _ _).alloc (Nat.le_refl _) _
  have HX0 := Lib.hid hx0
  have HA := Lib.hid (hA.below hx0); have HB := Lib.hid (hB.below hx0)
  have HW := Lib.hid hw; have HRI := Lib.hid hr
  have HH := Lib.hid (Blk.new w 33 #[.slice A ws.length c])
  clear hx0 hA hB hw hr
  go_enter Try.func21, Try.ntmps21
  go_wp2_with fail
  obtain ⟨i1, i2, hx1⟩ := fix_worldM (w.alloc (.cells #[.slice A ws.length c] 33)) (w.heap.size + 1) (by simp)
  generalize (((w.alloc (.cells #[.slice A ws.length c] 33)).alloc (.cells #[.int .i64 0, .int .i64 3, .int .i64 0, .int .i64 1, .int .i64 4, .int .i64 0, .int .i64 0, .int .i64 2, .int .i64 4, .int .i64 4] 3)).alloc (.cells #[.int .i64 12] 3)) = w5 at *
  refine (mcollect_any [0, 3, 0, 1, 4, 0, 0, 2, 4, 4] [12] (some ⟨w.heap.size + 1, 0, none⟩) (some ⟨w.heap.size + 1 + 1, 0, none⟩) 10 1 w5 i1 (by simp) (i64_fix _ (by decide)) (by simp) i2 (i64_fix _ (by decide)) (by simp)).mono ?_
  rintro e w6 ⟨X, Y, ⟨hb6, A6, c6, B6, d6, rfl, hoa, hob⟩, hXY⟩
  have hxy : X = [0, 3, 0, 2, 4, 12, 0, 1, 4, 0] ∧ Y = [4] := by
    obtain ⟨-, k, hk, hX, hY⟩ := hXY.resolve_left (fun h => h.1 (by rw [fix_move.1]))
    obtain rfl : k = 2 := chen_one hk (by rw [fix_move.2.1]; rfl)
    rw [hX, hY, fix_move.2.1]
    exact ⟨fix_move.2.2.1, fix_move.2.2.2⟩
  obtain ⟨rfl, rfl⟩ := hxy
  rw [fix_move.1] at *
  clear hXY
  obtain ⟨ia6, -, hc6⟩ := own_ints' hoa
  obtain ⟨ib6, -, -⟩ := own_ints' hob
  obtain ⟨bb, ob, rfl, hbb, rb⟩ := ib6 (by simp)
  have cb0 := rb 0 (by simp)
  have HX1 := Lib.hid (HX0.out.trans (hx1.mono (by simp)))
  have HX6 := Lib.hid (HX1.out.trans (hb6.mono HX1.out.size))
  have hx16 := hx1.trans (hb6.mono (by have := hx1.size; simpa using this))
  have HA6 := Lib.hid (HA.out.below (hx16.mono (by simp))); have HB6 := Lib.hid (HB.out.below (hx16.mono (by simp)))
  have HH6 := Lib.hid (HH.out.below hx16 (by simp))
  have HIA6 := Lib.hid ia6
  have HROB := Lib.hid rb
  clear hx16 hx1 hb6 hoa hob ia6 i1 i2 hc6 rb
  obtain ⟨x1, x2, x3⟩ := HH6.out.f1
  simp [nth] at cb0
  dsimp only [List.length_cons, List.length_nil, Nat.reduceAdd]
  unfold fltV
  go_wp2_with fail
  have hx7 : Below w6.heap.size w6 (((w6.alloc (.cells #[.slice A6 10 c6] 33)).alloc (.cells #[.int .i64 0, .int .i64 0] 36)).alloc (.cells #[.int .i64 0, .int .i64 3, .int .i64 0, .int .i64 2, .int .i64 4, .int .i64 12, .int .i64 0, .int .i64 1, .int .i64 4, .int .i64 0] 3)) := (((Below.refl _ _).alloc (Nat.le_refl _) _).alloc (by simp) _).alloc (by simp; omega) _
  have hk7 : Blk (((w6.alloc (.cells #[.slice A6 10 c6] 33)).alloc (.cells #[.int .i64 0, .int .i64 0] 36)).alloc (.cells #[.int .i64 0, .int .i64 3, .int .i64 0, .int .i64 2, .int .i64 4, .int .i64 12, .int .i64 0, .int .i64 1, .int .i64 4, .int .i64 0] 3)) w6.heap.size 33 #[.slice A6 10 c6] := ((Blk.new _ _ _).alloc _).alloc _
  have hf7 : Blk (((w6.alloc (.cells #[.slice A6 10 c6] 33)).alloc (.cells #[.int .i64 0, .int .i64 0] 36)).alloc (.cells #[.int .i64 0, .int .i64 3, .int .i64 0, .int .i64 2, .int .i64 4, .int .i64 12, .int .i64 0, .int .i64 1, .int .i64 4, .int .i64 0] 3)) (w6.heap.size + 1) 36 #[.int .i64 0, .int .i64 0] := by
    have := Blk.new (w6.alloc (.cells #[.slice A6 10 c6] 33)) 36 #[.int .i64 0, .int .i64 0]
    exact Blk.alloc (by simpa using this) _
  have hl7 : Ints (((w6.alloc (.cells #[.slice A6 10 c6] 33)).alloc (.cells #[.int .i64 0, .int .i64 0] 36)).alloc (.cells #[.int .i64 0, .int .i64 3, .int .i64 0, .int .i64 2, .int .i64 4, .int .i64 12, .int .i64 0, .int .i64 1, .int .i64 4, .int .i64 0] 3)) (some ⟨w6.heap.size + 1 + 1, 0, none⟩) [0, 3, 0, 2, 4, 12, 0, 1, 4, 0] := by
    have h := ints_new ((w6.alloc (.cells #[.slice A6 10 c6] 33)).alloc (.cells #[.int .i64 0, .int .i64 0] 36)) [0, 3, 0, 2, 4, 12, 0, 1, 4, 0]
    simp only [World.size_alloc] at h
    exact h
  generalize (((w6.alloc (.cells #[.slice A6 10 c6] 33)).alloc (.cells #[.int .i64 0, .int .i64 0] 36)).alloc (.cells #[.int .i64 0, .int .i64 3, .int .i64 0, .int .i64 2, .int .i64 4, .int .i64 12, .int .i64 0, .int .i64 1, .int .i64 4, .int .i64 0] 3)) = w7 at *
  refine (kints_any [0, 3, 0, 2, 4, 12, 0, 1, 4, 0] [0, 3, 0, 2, 4, 12, 0, 1, 4, 0] A6 _ c6 10 w7 (HIA6.out.below hx7) hl7 (by simp)).mono ?_
  rintro e w8 ⟨rfl, m, rfl⟩
  rw [eqB_self]
  have hx68 : Below w6.heap.size w6 (w7.drewN m) := hx7.trans (belowN _ _ m)
  have HK8 := Lib.hid (hk7.below (belowN w7.heap.size _ m) hk7.lt); have HF8 := Lib.hid (hf7.below (belowN w7.heap.size _ m) hf7.lt)
  clear hx7 hk7 hf7 hl7 HIA6 x1 x2 x3 cb0
  generalize w7.drewN m = w8 at *
  have HX8 := Lib.hid (HX6.out.trans (hx68.mono HX6.out.size))
  have HA8 := Lib.hid (HA6.out.below hx68); have HB8 := Lib.hid (HB6.out.below hx68)
  have HH8 := Lib.hid (HH6.out.below hx68 HH6.out.lt)
  have cb0 := (HROB.out.below hx68 hbb) 0 (by simp)
  simp [nth] at cb0
  have HX68 := Lib.hid hx68
  clear hx68 HROB
  obtain ⟨x1, x2, x3⟩ := HH8.out.f1
  obtain ⟨z1, z2, z3, z4, z5⟩ := HF8.out.f2
  go_wp2_with fail
  refine (vastk_any ws rs [] A B none c d 0 w8).mono ?_
  rintro e w9 ⟨rfl, hb9⟩
  have HX9 := Lib.hid (HX8.out.trans (hb9.mono HX8.out.size))
  have HA9 := Lib.hid (HA8.out.below hb9); have HB9 := Lib.hid (HB8.out.below hb9)
  have HH9 := Lib.hid (HH8.out.below hb9 HH8.out.lt); have HK9 := Lib.hid (HK8.out.below hb9 HK8.out.lt); have HF9 := Lib.hid (HF8.out.below hb9 HF8.out.lt)
  have HX69 := Lib.hid (HX68.out.trans (hb9.mono HX68.out.size))
  clear x1 x2 x3 z1 z2 z3 z4 z5 cb0 hb9
  by_cases hbig : 5000 < ws.length ∨ 5000 < rs.length
  · have hvv : (decide (5000 < ws.length) || decide (5000 < rs.length) || decide (5000 < ([] : List Int).length)) = true := by
      simp only [Bool.or_eq_true, decide_eq_true_eq]; omega
    rw [hvv]
    clear hbig hvv
    go_wp2_with fail
    go_ret
    exact ⟨rfl, HX9.out⟩
  have s1 : ws.length ≤ 5000 := by omega
  have s2 : rs.length ≤ 5000 := by omega
  have hvv : (decide (5000 < ws.length) || decide (5000 < rs.length) || decide (5000 < ([] : List Int).length)) = false := by
    simp only [Bool.or_eq_false_iff, decide_eq_false_iff_not, List.length_nil]; omega
  rw [hvv]
  clear hvv hbig
  obtain ⟨x1, x2, x3⟩ := HH9.out.f1
  go_wp2_with fail
  refine (mcollect_any ws rs A B c d w9 HA9.out hcap HW.out hl HB9.out HRI.out (by omega)).mono ?_
  rintro e w10 ⟨X, Y, ⟨hb10, A10, c10, B10, d10, rfl, hoa, hob⟩, hXY⟩
  have HXY := Lib.hid hXY
  generalize hf : rootsF ws rs = f at *
  have HFF := Lib.hid hf
  clear hXY hf
  obtain ⟨p1, p2, p3, p4, p5⟩ := put_boxes (v := w6) (K := w6.heap.size) HX69.out (Nat.le_refl _) HK9.out HF9.out hb10 hoa hob f.1 f.2
  have HH10 := Lib.hid (HH9.out.below hb10 HH9.out.lt); have HK10 := Lib.hid (HK9.out.below hb10 HK9.out.lt); have HF10 := Lib.hid (HF9.out.below hb10 HF9.out.lt)
  obtain ⟨y1, y2, y3⟩ := HK10.out.f1
  obtain ⟨z1, z2, z3, z4, z5⟩ := HF10.out.f2
  have HX11 := Lib.hid (HX6.out.trans (p1.mono HX6.out.size))
  have HA11 := Lib.hid (HA6.out.below p1); have HB11 := Lib.hid (HB6.out.below p1)
  have HH11 := Lib.hid (HH6.out.below p1 HH6.out.lt)
  have HIA11 := Lib.hid (own_ints' p2).1; have HIB11 := Lib.hid (own_ints' p3).1
  have hka := (own_ints' p2).2.2
  dsimp only at hka
  have HK11 := Lib.hid p4; have HF11 := Lib.hid p5
  clear p1 p2 p3 p4 p5 hb10 hoa hob x1 x2 x3
  unfold fltV
  obtain ⟨x1, x2, x3⟩ := HH11.out.f1
  go_wp2_with fail
  clear x1 x2 x3 y1 y2 y3 z1 z2 z3 z4 z5
  generalize (((w10.setCell ⟨w6.heap.size, 0, none⟩ (.slice A10 X.length c10)).setCell ⟨w6.heap.size + 1, 0, none⟩ (.int .i64 f.1)).setCell ⟨w6.heap.size + 1, 1, none⟩ (.int .i64 f.2)) = w11 at *
  refine (collect_any ws rs A B c d w11 HA11.out hcap HW.out hl HB11.out HRI.out (by omega)).mono ?_
  rintro e w12 ⟨S, T, ⟨hb12, A12, c12, B12, d12, rfl, hoa, hob⟩, hST⟩
  rw [HFF.out] at hST
  rw [HFF.out]
  have hlen : S.length = X.length := by
    by_cases h0 : f.1 = 0
    · obtain ⟨hok, -, -, hfit, -⟩ := rootsF_zero (ws := ws) (rs := rs) (by rw [HFF.out]; exact h0)
      obtain ⟨-, k, hk, hX, -⟩ := HXY.out.resolve_left (fun h => h.1 h0)
      obtain ⟨-, ff, hff, hS, -⟩ := hST.resolve_left (fun h => h.1 h0)
      rw [hX, hS]
      exact move_len hok hfit (sweep_ord hok hfit hff) (chen_ord hk)
    · obtain ⟨-, hX, -⟩ := HXY.out.resolve_right (fun h => h0 h.1)
      obtain ⟨-, hS, -⟩ := hST.resolve_right (fun h => h0 h.1)
      rw [hX, hS]
  dsimp only
  rw [hlen]
  have HX12 := Lib.hid (HX11.out.trans (hb12.mono HX11.out.size))
  have HK12 := Lib.hid (HK11.out.below hb12 HK11.out.lt); have HF12 := Lib.hid (HF11.out.below hb12 HF11.out.lt)
  have HIA12 := Lib.hid (HIA11.out.below hb12); have HIB12 := Lib.hid (HIB11.out.below hb12)
  have hKlt := HK12.out.lt
  clear hb12 hoa hob hST hlen HA11 HB11 HH11 HIA11 HIB11
  have hx13 : Below w12.heap.size w12 ((w12.alloc (.cells #[.slice A12 X.length c12] 33)).alloc (.cells #[.int .i64 f.1, .int .i64 f.2] 36)) := ((Below.refl _ _).alloc (Nat.le_refl _) _).alloc (by simp) _
  have hk13 : Blk ((w12.alloc (.cells #[.slice A12 X.length c12] 33)).alloc (.cells #[.int .i64 f.1, .int .i64 f.2] 36)) w12.heap.size 33 #[.slice A12 X.length c12] := (Blk.new _ _ _).alloc _
  have hf13 : Blk ((w12.alloc (.cells #[.slice A12 X.length c12] 33)).alloc (.cells #[.int .i64 f.1, .int .i64 f.2] 36)) (w12.heap.size + 1) 36 #[.int .i64 f.1, .int .i64 f.2] := by
    have := Blk.new (w12.alloc (.cells #[.slice A12 X.length c12] 33)) 36 #[.int .i64 f.1, .int .i64 f.2]
    simpa using this
  have HX13 := Lib.hid (HX12.out.trans (hx13.mono HX12.out.size))
  have HIA13 := Lib.hid (HIA12.out.below hx13); have HIB13 := Lib.hid (HIB12.out.below hx13)
  obtain ⟨x1, x2, x3⟩ := HK12.out.f1
  obtain ⟨z1, z2, z3, z4, z5⟩ := HF12.out.f2
  have HX1213 := Lib.hid hx13; have HK13 := Lib.hid hk13; have HF13 := Lib.hid hf13
  clear hx13 hk13 hf13
  cases hc : (f.1 == 0)
  · have hne : f.1 ≠ 0 := by simpa using hc
    have hc2 : (f.1 != 0) = true := by simpa using hne
    obtain ⟨-, rfl, rfl⟩ := HXY.out.resolve_right (fun h => hne h.1)
    clear hne
    unfold fltV
    go_wp2_with fail
    go_ret
    exact ⟨rfl, HX13.out⟩
  · have h0 : f.1 = 0 := by simpa using hc
    obtain ⟨hok, -, -, hfit, hz⟩ := rootsF_zero (ws := ws) (rs := rs) (by rw [HFF.out]; exact h0)
    obtain ⟨-, k, hk, hX, hY⟩ := HXY.out.resolve_left (fun h => h.1 h0)
    have hz0 : f = (0, 0) := HFF.out.symm.trans hz
    subst hz0
    have hs1 := chen_ord hk
    have hroots : rootsF X Y = (0, 0) := by rw [hX, hY]; exact roots_ok (arr_ok hok hfit hs1) (arrR_fits hok hfit hs1)
    have hix : I64 X := by rw [hX]; exact arr_i64 HW.out hok hfit hs1
    have hiy : I64 Y := by rw [hY]; exact arrR_i64 hok hfit hs1
    have hxl : X.length ≤ 2000 := by rw [hX]; exact Nat.le_trans (arr_len_le hok hfit hs1) hok.most
    have hyl : Y.length = rs.length := by rw [hY]; exact arrR_len ws rs _
    have htw : ∀ k', (chen X Y k').length = k' → arrW X (chen X Y k') = X ∧ arrR X Y (chen X Y k') = Y := fun k' h => move_twice hok hfit hk hX hY h
    have HROOTS := Lib.hid hroots; have HIX := Lib.hid hix; have HIY := Lib.hid hiy; have HTW := Lib.hid htw; have HYL := Lib.hid hyl
    clear h0 hok hfit hz hk hX hY hs1 hroots hix hiy htw hyl hc HXY HFF
    dsimp only at *
    unfold fltV
    go_wp2_with fail
    generalize (w12.alloc (.cells #[.slice A12 X.length c12] 33)).alloc (.cells #[.int .i64 0, .int .i64 0] 36) = w13 at *
    clear x1 x2 x3 z1 z2 z3 z4 z5
    refine (mcollect_any X Y A10 B10 c10 d10 w13 HIA13.out hka HIX.out (by omega) HIB13.out HIY.out (by have := HYL.out; omega)).mono ?_
    rintro e w14 ⟨X2, Y2, ⟨hb14, A14, c14, B14, d14, rfl, hoa, hob⟩, hXY2⟩
    have hx2 : X2 = X ∧ Y2 = Y := by
      obtain ⟨-, k2, hk2, hX2, hY2⟩ := hXY2.resolve_left (fun h => h.1 (by rw [HROOTS.out]))
      exact ⟨hX2.trans (HTW.out k2 hk2).1, hY2.trans (HTW.out k2 hk2).2⟩
    obtain ⟨rfl, rfl⟩ := hx2
    rw [HROOTS.out]
    obtain ⟨p1, p2, p3, p4, p5⟩ := put_boxes (v := w12) (K := w12.heap.size) HX1213.out (Nat.le_refl _) HK13.out HF13.out hb14 hoa hob 0 0
    obtain ⟨y1, y2, y3⟩ := (HK13.out.below hb14 HK13.out.lt).f1
    obtain ⟨z1, z2, z3, z4, z5⟩ := (HF13.out.below hb14 HF13.out.lt).f2
    obtain ⟨v1, v2, v3⟩ := p4.f1
    obtain ⟨x1, x2, x3⟩ := (HK12.out.below p1 HK12.out.lt).f1
    have HX15 := Lib.hid (HX12.out.trans (p1.mono HX12.out.size))
    have HI1 := Lib.hid (own_ints' p2).1; have HI2 := Lib.hid (own_ints' p3).1
    have HI3 := Lib.hid (HIA12.out.below p1); have HI4 := Lib.hid (HIB12.out.below p1)
    have HF15 := Lib.hid p5
    clear p1 p2 p3 p4 p5 hb14 hoa hob hXY2
    unfold fltV
    dsimp only
    go_wp2_with fail
    refine (kints_any X2 X2 A14 A10 c14 c10 _ HI1.out HI3.out (by omega)).mono ?_
    rintro e w16 ⟨rfl, m1, rfl⟩
    rw [eqB_self]
    clear x1 x2 x3 y1 y2 y3 z1 z2 z3 z4 z5 v1 v2 v3
    go_wp2_with fail
    refine (kints_any Y2 Y2 B14 B10 d14 d10 _ (HI2.out.below (belowN (World.heap _).size _ m1)) (HI4.out.below (belowN (World.heap _).size _ m1)) (by have := HYL.out; omega)).mono ?_
    rintro e w17 ⟨rfl, m2, rfl⟩
    rw [eqB_self]
    obtain ⟨z1, z2, z3, z4, z5⟩ := HF15.out.f2
    go_wp2_with fail
    go_ret
    exact ⟨rfl, HX15.out.trans (belowN _ _ _)⟩
end Go.Proofs.Ytjpppdacamhhfaa
