/- What BecomeTwice' code computes. Conditions: the words are numbers of 64 bits. -/
import Derived.Test.YtjpppdacamhhfaaLawBecome
import Derived.Test.YtjpppdacamhhfaaKeepsA
import Derived.Test.YtjpppdacamhhfaaBSpec5
import Derived.BigQuiet
namespace Go.Proofs.Ytjpppdacamhhfaa
open Go.RowKit
set_option linter.unusedVariables false

theorem kvast_any (ws rs fr : List Int) (A B C : Option Addr) (c d c' : Nat) (w : World) :
    Calls Try.prog 69 #[.agg #[.slice A ws.length c], .slice B rs.length d, .slice C fr.length c'] w fun e w' => e = .returned (.bool (decide (5000 < ws.length) || decide (5000 < rs.length) || decide (5000 < fr.length))) ∧ Below w.heap.size w w' := by
  by_cases h1 : 5000 < ws.length
  · go_enter Try.func69, Try.ntmps69
    go_wp2
    go_ret
    exact ⟨ret_bool (by simp), (Below.refl _ _).alloc (Nat.le_refl _) _⟩
  · by_cases h2 : 5000 < rs.length
    · go_enter Try.func69, Try.ntmps69
      go_wp2
      go_ret
      exact ⟨ret_bool (by simp), (Below.refl _ _).alloc (Nat.le_refl _) _⟩
    · go_enter Try.func69, Try.ntmps69
      go_wp2
      go_ret
      exact ⟨ret_bool (by rw [decide_eq_decide.2 (show (5000 : Int) < (ws.length : Int) ↔ 5000 < ws.length by omega), decide_eq_decide.2 (show (5000 : Int) < (rs.length : Int) ↔ 5000 < rs.length by omega), decide_eq_decide.2 (show (5000 : Int) < (fr.length : Int) ↔ 5000 < fr.length by omega)]), (Below.refl _ _).alloc (Nat.le_refl _) _⟩

theorem fix_bec : becF [0, 3, 0, 1, 0, 0, 2, 4, 4] [10, 4] [4] [10] true = (0, 0) ∧ becR [0, 3, 0, 1, 0, 0, 2, 4, 4] [10, 4] [4] [10] true = ([0, 3, 0, 1, 0, 0, 2, 4, 10], [4, 10]) := by decide +kernel
theorem i64_fix (xs : List Int) (h : ∀ x ∈ xs, -9223372036854775808 ≤ x ∧ x ≤ 9223372036854775807) : I64 xs := fun j => by
  rcases Nat.lt_or_ge j xs.length with hl | hl
  · rw [nth_eq hl]; exact h _ (List.getElem_mem _)
  · rw [nth_out hl]; omega

/-- The fixed lists, laid one behind the other. -/
theorem fix_world (v : World) (n : Nat) (hn : v.heap.size = n) :
    Ints ((((v.alloc (.cells #[.int .i64 0, .int .i64 3, .int .i64 0, .int .i64 1, .int .i64 0, .int .i64 0, .int .i64 2, .int .i64 4, .int .i64 4] 3)).alloc (.cells #[.int .i64 4] 3)).alloc (.cells #[.int .i64 10] 3)).alloc (.cells #[.int .i64 10, .int .i64 4] 3)) (some ⟨n, 0, none⟩) [0, 3, 0, 1, 0, 0, 2, 4, 4] ∧
    Ints ((((v.alloc (.cells #[.int .i64 0, .int .i64 3, .int .i64 0, .int .i64 1, .int .i64 0, .int .i64 0, .int .i64 2, .int .i64 4, .int .i64 4] 3)).alloc (.cells #[.int .i64 4] 3)).alloc (.cells #[.int .i64 10] 3)).alloc (.cells #[.int .i64 10, .int .i64 4] 3)) (some ⟨n + 1, 0, none⟩) [4] ∧
    Ints ((((v.alloc (.cells #[.int .i64 0, .int .i64 3, .int .i64 0, .int .i64 1, .int .i64 0, .int .i64 0, .int .i64 2, .int .i64 4, .int .i64 4] 3)).alloc (.cells #[.int .i64 4] 3)).alloc (.cells #[.int .i64 10] 3)).alloc (.cells #[.int .i64 10, .int .i64 4] 3)) (some ⟨n + 1 + 1, 0, none⟩) [10] ∧
    Ints ((((v.alloc (.cells #[.int .i64 0, .int .i64 3, .int .i64 0, .int .i64 1, .int .i64 0, .int .i64 0, .int .i64 2, .int .i64 4, .int .i64 4] 3)).alloc (.cells #[.int .i64 4] 3)).alloc (.cells #[.int .i64 10] 3)).alloc (.cells #[.int .i64 10, .int .i64 4] 3)) (some ⟨n + 1 + 1 + 1, 0, none⟩) [10, 4] ∧
    Below n v ((((v.alloc (.cells #[.int .i64 0, .int .i64 3, .int .i64 0, .int .i64 1, .int .i64 0, .int .i64 0, .int .i64 2, .int .i64 4, .int .i64 4] 3)).alloc (.cells #[.int .i64 4] 3)).alloc (.cells #[.int .i64 10] 3)).alloc (.cells #[.int .i64 10, .int .i64 4] 3)) := by
  subst hn
  refine ⟨(((ints_new v [0, 3, 0, 1, 0, 0, 2, 4, 4]).alloc _).alloc _).alloc _, ?_, ?_, ?_, ?_⟩
  · have h := ints_new (v.alloc (.cells #[.int .i64 0, .int .i64 3, .int .i64 0, .int .i64 1, .int .i64 0, .int .i64 0, .int .i64 2, .int .i64 4, .int .i64 4] 3)) [4]
    simp only [World.size_alloc] at h
    exact (h.alloc _).alloc _
  · have h := ints_new ((v.alloc (.cells #[.int .i64 0, .int .i64 3, .int .i64 0, .int .i64 1, .int .i64 0, .int .i64 0, .int .i64 2, .int .i64 4, .int .i64 4] 3)).alloc (.cells #[.int .i64 4] 3)) [10]
    simp only [World.size_alloc] at h
    exact h.alloc _
  · have h := ints_new (((v.alloc (.cells #[.int .i64 0, .int .i64 3, .int .i64 0, .int .i64 1, .int .i64 0, .int .i64 0, .int .i64 2, .int .i64 4, .int .i64 4] 3)).alloc (.cells #[.int .i64 4] 3)).alloc (.cells #[.int .i64 10] 3)) [10, 4]
    simp only [World.size_alloc] at h
    exact h
  · exact ((((Below.refl _ _).alloc (Nat.le_refl _) _).alloc (by simp) _).alloc (by simp; omega) _).alloc (by simp; omega) _

theorem becF_len {ws rs fr ot : List Int} {both : Bool} (h : (becF ws rs fr ot both).1 = 0) : fr.length = ot.length := by
  have hr : (rootsF ws rs).1 = 0 := by
    by_cases h1 : (rootsF ws rs).1 = 0
    · exact h1
    · unfold becF at h; rw [if_neg h1] at h; exact absurd h h1
  unfold becF at h; rw [if_pos hr] at h
  exact (wrongF_zero h).1
/-- Is x among the first k? -/
def anyE (xs : List Int) (x : Int) : Nat → Bool
  | 0 => false
  | k + 1 => anyE xs x k || nth xs k == x
theorem anyE_no {xs : List Int} {x : Int} : ∀ {n : Nat}, anyE xs x n = false → ∀ j, j < n → nth xs j ≠ x
  | 0, _, j, hj => absurd hj (Nat.not_lt_zero _)
  | n + 1, h, j, hj => by
    simp only [anyE, Bool.or_eq_false_iff, beq_eq_false_iff_ne] at h
    rcases Nat.lt_or_ge j n with h1 | h1
    · exact anyE_no h.1 j h1
    · obtain rfl : j = n := by omega
      exact h.2
theorem fold_i64 {h : Int → Int} {ws : List Int} (hh : ∀ o, -9223372036854775808 ≤ o → o ≤ 9223372036854775807 → -9223372036854775808 ≤ h o ∧ h o ≤ 9223372036854775807) : ∀ (ps : List Nat) (xs : List Int), I64 xs → I64 (ps.foldl (stepX h ws) xs)
  | [], _, hx => hx
  | p :: ps, xs, hx => fold_i64 hh ps _ (i64_step hx hh p)
theorem becR_i64 {ws rs fr ot : List Int} {both : Bool} (hw : I64 ws) (hr : I64 rs) (hf : I64 fr) (ho : I64 ot) : I64 (becR ws rs fr ot both).1 ∧ I64 (becR ws rs fr ot both).2 := by
  have hn : I64 [] := fun j => by rw [nth_out (Nat.zero_le _)]; omega
  unfold becR
  split
  · refine ⟨fold_i64 (other_bd hf ho both) _ _ hw, i64_fix _ (fun x hx => ?_)⟩
    obtain ⟨y, hy, rfl⟩ := List.mem_map.1 hx
    obtain ⟨j, hj, rfl⟩ := List.getElem_of_mem hy
    have := hr j
    rw [nth_eq hj] at this
    exact other_bd hf ho both _ this.1 this.2
  · exact ⟨hn, hn⟩
/-- A call's three results, stored into boxes made before it. -/
theorem put_boxes {v w3 w4 : World} {K : Nat} {u a b V1 V2 : Value} {xs ys : List Int} (hv : Below v.heap.size v w3) (hK : v.heap.size ≤ K) (hk : Blk w3 K 33 #[u]) (hf : Blk w3 (K + 1) 36 #[a, b]) (hb : Below w3.heap.size w3 w4)
    (hoa : Own w4 w3.heap.size V1 xs) (hob : Own w4 w3.heap.size V2 ys) (p q : Int) :
    Below v.heap.size v (((w4.setCell ⟨K, 0, none⟩ V1).setCell ⟨K + 1, 0, none⟩ (.int .i64 p)).setCell ⟨K + 1, 1, none⟩ (.int .i64 q)) ∧
    Own (((w4.setCell ⟨K, 0, none⟩ V1).setCell ⟨K + 1, 0, none⟩ (.int .i64 p)).setCell ⟨K + 1, 1, none⟩ (.int .i64 q)) w3.heap.size V1 xs ∧
    Own (((w4.setCell ⟨K, 0, none⟩ V1).setCell ⟨K + 1, 0, none⟩ (.int .i64 p)).setCell ⟨K + 1, 1, none⟩ (.int .i64 q)) w3.heap.size V2 ys ∧
    Blk (((w4.setCell ⟨K, 0, none⟩ V1).setCell ⟨K + 1, 0, none⟩ (.int .i64 p)).setCell ⟨K + 1, 1, none⟩ (.int .i64 q)) K 33 #[V1] ∧
    Blk (((w4.setCell ⟨K, 0, none⟩ V1).setCell ⟨K + 1, 0, none⟩ (.int .i64 p)).setCell ⟨K + 1, 1, none⟩ (.int .i64 q)) (K + 1) 36 #[.int .i64 p, .int .i64 q] := by
  have hlt := hf.lt
  have hn : ∀ {V zs}, Own w4 w3.heap.size V zs → ∀ k, V.ownBlock = some k → w3.heap.size ≤ k := fun h k e => (h.lt _ e).1
  refine ⟨(((hv.trans (hb.mono hv.size)).setCell (by dsimp only; omega) _).setCell (by dsimp only; omega) _).setCell (by dsimp only; omega) _, ?_, ?_, ?_, ?_⟩
  · exact ((hoa.setCell _ (fun e => by have := hn hoa _ e; dsimp only at this; omega) _).setCell _ (fun e => by have := hn hoa _ e; dsimp only at this; omega) _).setCell _ (fun e => by have := hn hoa _ e; dsimp only at this; omega) _
  · exact ((hob.setCell _ (fun e => by have := hn hob _ e; dsimp only at this; omega) _).setCell _ (fun e => by have := hn hob _ e; dsimp only at this; omega) _).setCell _ (fun e => by have := hn hob _ e; dsimp only at this; omega) _
  · exact (((hk.below hb hk.lt).set_ 0 V1).far (by dsimp only; omega) _).far (by dsimp only; omega) _
  · exact (((hf.below hb hf.lt).far (by dsimp only; omega) V1).set_ 0 (.int .i64 p)).set_ 1 (.int .i64 q)

set_option maxRecDepth 100000 in
set_option maxHeartbeats 1600000 in
theorem becomeTwice_walk (ws : List Int) (A : Option Addr) (c : Nat) (fr : List Int) (C : Option Addr) (c' : Nat) (ot : List Int) (D : Option Addr) (d' : Nat) (rs : List Int) (B : Option Addr) (d : Nat) (w : World)
    (hA : Ints w A ws) (hcap : ws.length ≤ c) (hw : I64 ws) (hl : ws.length ≤ 9223372036854775807) (hC : Ints w C fr) (hcapC : fr.length ≤ c') (hfr : I64 fr) (hfl : fr.length ≤ 9223372036854775807)
    (hD : Ints w D ot) (hcapD : ot.length ≤ d') (hot : I64 ot) (hol : ot.length ≤ 9223372036854775807) (hB : Ints w B rs) (hcapB : rs.length ≤ d) (hr : I64 rs) (hrl : rs.length ≤ 9223372036854775807) :
    Calls Try.prog 16 #[.agg #[.slice A ws.length c], .slice C fr.length c', .slice D ot.length d', .slice B rs.length d] w fun e w' => e = .returned (.bool true) ∧ Below w.heap.size w w' := by
  have hx0 : Below w.heap.size w (w.alloc (.cells #[.slice A ws.length c] 33)) := (Below.refl _ _).alloc (Nat.le_refl _) _
  have HX0 := Lib.hid hx0
  have HA := Lib.hid (hA.below hx0); have HB := Lib.hid (hB.below hx0); have HC := Lib.hid (hC.below hx0); have HD := Lib.hid (hD.below hx0)
  have HW := Lib.hid hw; have HFR := Lib.hid hfr; have HOT := Lib.hid hot; have HRI := Lib.hid hr
  have HH := Lib.hid (Blk.new w 33 #[.slice A ws.length c])
  clear hx0 hA hB hC hD hw hfr hot hr
  go_enter Try.func16, Try.ntmps16
  go_wp2_with fail
  obtain ⟨i1, i2, i3, i4, hx1⟩ := fix_world (w.alloc (.cells #[.slice A ws.length c] 33)) (w.heap.size + 1) (by simp)
  generalize ((((w.alloc (.cells #[.slice A ws.length c] 33)).alloc (.cells #[.int .i64 0, .int .i64 3, .int .i64 0, .int .i64 1, .int .i64 0, .int .i64 0, .int .i64 2, .int .i64 4, .int .i64 4] 3)).alloc (.cells #[.int .i64 4] 3)).alloc (.cells #[.int .i64 10] 3)).alloc (.cells #[.int .i64 10, .int .i64 4] 3) = w5 at *
  refine (two_any [0, 3, 0, 1, 0, 0, 2, 4, 4] [10, 4] [4] [10] (some ⟨w.heap.size + 1, 0, none⟩) (some ⟨w.heap.size + 1 + 1 + 1 + 1, 0, none⟩) (some ⟨w.heap.size + 1 + 1, 0, none⟩) (some ⟨w.heap.size + 1 + 1 + 1, 0, none⟩) 9 2 1 1 w5 i1 (by simp) (i64_fix _ (by decide)) (by simp) i4 (i64_fix _ (by decide)) (by simp) i2 (i64_fix _ (by decide)) (by simp) i3 (i64_fix _ (by decide))).mono ?_
  rintro e w6 ⟨hb6, A6, c6, B6, d6, rfl, hoa, hob⟩
  rw [fix_bec.1, fix_bec.2] at *
  obtain ⟨ia6, _, _⟩ := own_ints hoa
  obtain ⟨ib6, _, _⟩ := own_ints hob
  obtain ⟨ba, oa, rfl, hba, ra⟩ := ia6 (by simp)
  obtain ⟨bb, ob, rfl, hbb, rb⟩ := ib6 (by simp)
  have ca := ra 8 (by simp)
  have cb0 := rb 0 (by simp)
  have cb1 := rb 1 (by simp)
  have HX1 := Lib.hid (HX0.out.trans (hx1.mono (by simp)))
  have HX6 := Lib.hid (HX1.out.trans (hb6.mono HX1.out.size))
  have hx16 := hx1.trans (hb6.mono (by have := hx1.size; simpa using this))
  have HA6 := Lib.hid (HA.out.below (hx16.mono (by simp))); have HB6 := Lib.hid (HB.out.below (hx16.mono (by simp))); have HC6 := Lib.hid (HC.out.below (hx16.mono (by simp))); have HD6 := Lib.hid (HD.out.below (hx16.mono (by simp)))
  have HH6 := Lib.hid (HH.out.below hx16 (by simp))
  clear hx16 hx1 hb6 hoa hob ia6 ib6 i1 i2 i3 i4
  obtain ⟨x1, x2, x3⟩ := HH6.out.f1
  simp [nth] at ca cb0 cb1
  unfold fltV
  go_wp2_with fail
  have hx7 : Below w6.heap.size w6 ((w6.alloc (.cells #[.slice (some ⟨ba, oa, none⟩) 9 c6] 33)).alloc (.cells #[.int .i64 0, .int .i64 0] 36)) := ((Below.refl _ _).alloc (Nat.le_refl _) _).alloc (by simp) _
  have hk7 : Blk ((w6.alloc (.cells #[.slice (some ⟨ba, oa, none⟩) 9 c6] 33)).alloc (.cells #[.int .i64 0, .int .i64 0] 36)) w6.heap.size 33 #[.slice (some ⟨ba, oa, none⟩) 9 c6] := (Blk.new _ _ _).alloc _
  have hf7 : Blk ((w6.alloc (.cells #[.slice (some ⟨ba, oa, none⟩) 9 c6] 33)).alloc (.cells #[.int .i64 0, .int .i64 0] 36)) (w6.heap.size + 1) 36 #[.int .i64 0, .int .i64 0] := by
    have := Blk.new (w6.alloc (.cells #[.slice (some ⟨ba, oa, none⟩) 9 c6] 33)) 36 #[.int .i64 0, .int .i64 0]
    simpa using this
  generalize ((w6.alloc (.cells #[.slice (some ⟨ba, oa, none⟩) 9 c6] 33)).alloc (.cells #[.int .i64 0, .int .i64 0] 36)) = w7 at *
  refine (kvast_any ws rs fr A B C c d c' w7).mono ?_
  rintro e w8 ⟨rfl, hb8⟩
  have hx68 := hx7.trans (hb8.mono hx7.size)
  have HX8 := Lib.hid (HX6.out.trans (hx68.mono HX6.out.size))
  have HA8 := Lib.hid (HA6.out.below hx68); have HB8 := Lib.hid (HB6.out.below hx68); have HC8 := Lib.hid (HC6.out.below hx68); have HD8 := Lib.hid (HD6.out.below hx68)
  have HH8 := Lib.hid (HH6.out.below hx68 HH6.out.lt)
  have HK8 := Lib.hid (hk7.below hb8 hk7.lt); have HF8 := Lib.hid (hf7.below hb8 hf7.lt)
  have HX68 := Lib.hid hx68
  clear hx68 hx7 hb8 hk7 hf7 x1 x2 x3 ca cb0 cb1 ra rb
  cases hvv : (decide (5000 < ws.length) || decide (5000 < rs.length) || decide (5000 < fr.length))
  · simp only [Bool.or_eq_false_iff, decide_eq_false_iff_not] at hvv
    obtain ⟨⟨s1, s2⟩, s3⟩ := hvv
    by_cases s4 : 5000 < ot.length
    · go_wp2
      go_ret
      exact ⟨rfl, HX8.out⟩
    · obtain ⟨x1, x2, x3⟩ := HH8.out.f1
      go_wp2_with fail
      refine (two_any ws rs fr ot A B C D c d c' d' w8 HA8.out hcap HW.out hl HB8.out HRI.out (by omega) HC8.out HFR.out (by omega) HD8.out HOT.out).mono ?_
      rintro e w9 ⟨hb9, A9, c9, B9, d9, rfl, hoa, hob⟩
      have hl9 : (becR ws rs fr ot true).1.length ≤ ws.length ∧ (becR ws rs fr ot true).2.length ≤ rs.length := becR_len
      have hT := Lib.hid (bec_twice (ws := ws) (rs := rs) (fr := fr) (ot := ot))
      have hi9 := becR_i64 (ws := ws) (rs := rs) (fr := fr) (ot := ot) (both := true) HW.out HRI.out HFR.out HOT.out
      have HI9 := Lib.hid hi9
      clear hi9
      generalize becF ws rs fr ot true = f at *
      generalize becR ws rs fr ot true = r at *
      obtain ⟨q1, q2⟩ := hl9
      obtain ⟨_, _, hka⟩ := own_ints hoa
      obtain ⟨_, _, hkb⟩ := own_ints hob
      obtain ⟨p1, p2, p3, p4, p5⟩ := put_boxes (v := w6) (K := w6.heap.size) HX68.out (Nat.le_refl _) HK8.out HF8.out hb9 hoa hob f.1 f.2
      have HH9 := Lib.hid (HH8.out.below hb9 HH8.out.lt); have HK9 := Lib.hid (HK8.out.below hb9 HK8.out.lt); have HF9 := Lib.hid (HF8.out.below hb9 HF8.out.lt)
      obtain ⟨y1, y2, y3⟩ := HK9.out.f1
      obtain ⟨z1, z2, z3, z4, z5⟩ := HF9.out.f2
      have HX10 := Lib.hid (HX6.out.trans (p1.mono HX6.out.size))
      have HX610 := Lib.hid p1
      have HA10 := Lib.hid (HA6.out.below p1); have HB10 := Lib.hid (HB6.out.below p1); have HC10 := Lib.hid (HC6.out.below p1); have HD10 := Lib.hid (HD6.out.below p1)
      have HH10 := Lib.hid (HH6.out.below p1 HH6.out.lt)
      have HIA := Lib.hid (own_ints p2).1; have HIB := Lib.hid (own_ints p3).1
      have HK10 := Lib.hid p4; have HF10 := Lib.hid p5
      clear p1 p2 p3 p4 p5 hb9 hoa hob x1 x2 x3
      unfold fltV
      obtain ⟨x1, x2, x3⟩ := HH10.out.f1
      obtain ⟨v1, v2, v3⟩ := HK10.out.f1
      obtain ⟨u1, u2, u3, u4, u5⟩ := HF10.out.f2
      cases hf : (f.1 == 0)
      · go_wp2_with fail
        clear y1 y2 y3 z1 z2 z3 z4 z5 x1 x2 x3 v1 v2 v3 u1 u2 u3 u4 u5
        generalize (((w9.setCell ⟨w6.heap.size, 0, none⟩ (.slice A9 r.1.length c9)).setCell ⟨w6.heap.size + 1, 0, none⟩ (.int .i64 f.1)).setCell ⟨w6.heap.size + 1, 1, none⟩ (.int .i64 f.2)) = w10 at *
        refine (one_any ws rs fr ot A B C D c d c' d' w10 HA10.out hcap HW.out hl HB10.out HRI.out (by omega) HC10.out HFR.out (by omega) HD10.out HOT.out).mono ?_
        rintro e w30 ⟨hb30, A30, c30, B30, d30, rfl, hoa, hob⟩
        have hl30 : (becR ws rs fr ot false).1.length ≤ ws.length ∧ (becR ws rs fr ot false).2.length ≤ rs.length := becR_len
        have hE := Lib.hid (becR_err (ws := ws) (rs := rs) (fr := fr) (ot := ot) (both := false))
        have hZ := Lib.hid (becR_zero (ws := ws) (rs := rs) (fr := fr) (ot := ot) (both := false))
        have hL := Lib.hid (becF_len (ws := ws) (rs := rs) (fr := fr) (ot := ot) (both := false))
        generalize becF ws rs fr ot false = g at *
        generalize becR ws rs fr ot false = s at *
        obtain ⟨q5, q6⟩ := hl30
        obtain ⟨_, _, hke⟩ := own_ints hoa
        obtain ⟨_, _, hkf⟩ := own_ints hob
        obtain ⟨p1, p2, p3, p4, p5⟩ := put_boxes (v := w6) (K := w6.heap.size) HX610.out (Nat.le_refl _) HK10.out HF10.out hb30 hoa hob g.1 g.2
        have HH30 := Lib.hid (HH10.out.below hb30 HH10.out.lt); have HK30 := Lib.hid (HK10.out.below hb30 HK10.out.lt); have HF30 := Lib.hid (HF10.out.below hb30 HF10.out.lt)
        obtain ⟨y1, y2, y3⟩ := HK30.out.f1
        obtain ⟨z1, z2, z3, z4, z5⟩ := HF30.out.f2
        have HX31 := Lib.hid (HX6.out.trans (p1.mono HX6.out.size))
        have HC31 := Lib.hid (HC6.out.below p1); have HD31 := Lib.hid (HD6.out.below p1)
        have HIL := Lib.hid (own_ints p3).1
        obtain ⟨v1, v2, v3⟩ := p4.f1
        obtain ⟨u1, u2, u3, u4, u5⟩ := p5.f2
        clear p1 p2 p3 p4 p5 hb30 hoa hob
        unfold fltV
        cases hg : (g.1 != 0)
        · have g0 : g.1 = 0 := by simpa using hg
          have hlen : fr.length = ot.length := hL.out g0
          have hgone : ∀ i, i < fr.length → anyE ot (nth fr i) ot.length = false → ∀ j, j < s.2.length → (nth s.2 j == nth fr i) = false := fun i hi ha j hj => by
            have e : s.2 = rs.map (other fr ot false) := by rw [hZ.out g0]
            rw [beq_eq_false_iff_ne, e, nth_eq (by rw [← e]; exact hj), List.getElem_map]
            exact other_gone hlen hi (anyE_no ha) _
          have HGONE := Lib.hid hgone
          have hle : ot.length ≤ fr.length := by omega
          clear hgone hlen g0
          go_wp2_with fail
          clear y1 y2 y3 z1 z2 z3 z4 z5 v1 v2 v3 u1 u2 u3 u4 u5
          generalize (((w30.setCell ⟨w6.heap.size, 0, none⟩ (.slice A30 s.1.length c30)).setCell ⟨w6.heap.size + 1, 0, none⟩ (.int .i64 g.1)).setCell ⟨w6.heap.size + 1, 1, none⟩ (.int .i64 g.2)) = w31 at *
          go_loopw [17] (fun i wr => ∃ q m : Nat, i = .int .i64 q ∧ q ≤ fr.length ∧ wr = w31.drewN m) (fun i _ => fr.length - (intOf i).toNat)
          case atStart => exact ⟨0, 0, rfl, Nat.zero_le _, rfl⟩
          case round =>
            obtain ⟨q, m, rfl, hq, rfl⟩ := hrel
            by_cases hql : q < fr.length
            · obtain ⟨b1, o1, rfl, _, r1⟩ := HC31.out (by omega)
              have e1 := r1 q hql
              clear r1
              have g1 : (0 : Int) ≤ (q : Int) := by omega
              have g2 : (q : Int) < (fr.length : Int) := by omega
              go_wp2_with fail
              go_loopw [18, 19] (fun v i wr => ∃ (k m : Nat) (e : Bool), i = .int .i64 k ∧ k ≤ ot.length ∧ v = .bool e ∧ wr = w31.drewN m ∧ e = anyE ot (nth fr q) k) (fun _ i _ => ot.length - (intOf i).toNat)
              case atStart => exact ⟨0, m, _, rfl, Nat.zero_le _, rfl, rfl, rfl⟩
              case round =>
                obtain ⟨k, m, e, rfl, hk, rfl, rfl, he⟩ := hrel
                have HE := Lib.hid he; clear he
                by_cases hkl : k < ot.length
                · obtain ⟨b2, o2, rfl, _, r2⟩ := HD31.out (by omega)
                  have e2 := r2 k hkl
                  clear r2
                  have g3 : (0 : Int) ≤ (k : Int) := by omega
                  have g4 : (k : Int) < (ot.length : Int) := by omega
                  cases e
                  all_goals
                    go_wp2_with fail
                    go_quiet (fail)
                    go_wp2
                    go_roundw
                    case rel => exact ⟨k + 1, _, _, by go_num, by omega, rfl, rfl, by rw [anyE, ← HE.out]; simp⟩
                    case measure => simp [intOf]; omega
                · obtain rfl : k = ot.length := by omega
                  go_wp2_with fail
                  go_loopw [20] (fun i wr => ∃ j m : Nat, i = .int .i64 j ∧ j ≤ s.2.length ∧ wr = w31.drewN m) (fun i _ => s.2.length - (intOf i).toNat)
                  case atStart => exact ⟨0, m, rfl, Nat.zero_le _, rfl⟩
                  case round =>
                    obtain ⟨j, m, rfl, hj, rfl⟩ := hrel
                    by_cases hjl : j < s.2.length
                    · cases e
                      · obtain ⟨b3, o3, rfl, _, r3⟩ := HIL.out (by omega)
                        have e3 := r3 j hjl
                        clear r3
                        have hne := HGONE.out q hql HE.out.symm j hjl
                        have g5 : (0 : Int) ≤ (j : Int) := by omega
                        have g6 : (j : Int) < (s.2.length : Int) := by omega
                        go_wp2_with fail
                        go_quiet (fail)
                        go_wp2
                        go_roundw
                        case rel => exact ⟨j + 1, _, by go_num, by omega, rfl⟩
                        case measure => simp [intOf]; omega
                      · go_wp2
                        go_roundw
                        case rel => exact ⟨q + 1, _, by go_num, by omega, rfl⟩
                        case measure => simp [intOf]; omega
                    · obtain rfl : j = s.2.length := by omega
                      go_wp2
                      go_roundw
                      case rel => exact ⟨q + 1, _, by go_num, by omega, rfl⟩
                      case measure => simp [intOf]; omega
            · obtain rfl : q = fr.length := by omega
              go_wp2
              go_ret
              exact ⟨rfl, HX31.out.trans (belowN _ _ _)⟩
        · have es := hE.out (by simpa using hg)
          subst es
          go_wp2
          go_ret
          exact ⟨rfl, HX31.out⟩
      · go_wp2_with fail
        clear y1 y2 y3 z1 z2 z3 z4 z5 x1 x2 x3 v1 v2 v3 u1 u2 u3 u4 u5
        generalize (((w9.setCell ⟨w6.heap.size, 0, none⟩ (.slice A9 r.1.length c9)).setCell ⟨w6.heap.size + 1, 0, none⟩ (.int .i64 f.1)).setCell ⟨w6.heap.size + 1, 1, none⟩ (.int .i64 f.2)) = w10 at *
        obtain ⟨t1, t2, _⟩ := hT.out (by simpa using hf)
        have T1 := Lib.hid t1; have T2 := Lib.hid t2
        refine (two_any r.1 r.2 fr ot A9 B9 C D c9 d9 c' d' w10 HIA.out (by omega) HI9.out.1 (by omega) HIB.out HI9.out.2 (by omega) HC10.out HFR.out (by omega) HD10.out HOT.out).mono ?_
        clear t1 t2
        rw [T1.out, T2.out]
        rintro e w11 ⟨hb11, A11, c11, B11, d11, rfl, hoa, hob⟩
        obtain ⟨ia, _, hkg⟩ := own_ints hoa
        obtain ⟨ib, _, hkh⟩ := own_ints hob
        have hx11 := HX610.out.trans (hb11.mono HX610.out.size)
        have hx12 : Below w11.heap.size w11 ((w11.alloc (.cells #[.slice A11 ws.length c11] 33)).alloc (.cells #[.int .i64 0, .int .i64 0] 36)) := ((Below.refl _ _).alloc (Nat.le_refl _) _).alloc (by simp) _
        have hk12 : Blk ((w11.alloc (.cells #[.slice A11 ws.length c11] 33)).alloc (.cells #[.int .i64 0, .int .i64 0] 36)) w11.heap.size 33 #[.slice A11 ws.length c11] := (Blk.new _ _ _).alloc _
        have hf12 : Blk ((w11.alloc (.cells #[.slice A11 ws.length c11] 33)).alloc (.cells #[.int .i64 0, .int .i64 0] 36)) (w11.heap.size + 1) 36 #[.int .i64 0, .int .i64 0] := by
          have := Blk.new (w11.alloc (.cells #[.slice A11 ws.length c11] 33)) 36 #[.int .i64 0, .int .i64 0]
          simpa using this
        have HH11 := Lib.hid (HH10.out.below hb11 HH10.out.lt)
        have HK11 := Lib.hid (HK10.out.below hb11 HK10.out.lt); have HF11 := Lib.hid (HF10.out.below hb11 HF10.out.lt)
        obtain ⟨x1, x2, x3⟩ := HH11.out.f1
        obtain ⟨z1, z2, z3⟩ := (HH11.out.below hx12 HH11.out.lt).f1
        obtain ⟨y1, y2, y3⟩ := hk12.f1
        have h6 : w6.heap.size ≤ w11.heap.size := hx11.size
        have HX612 := Lib.hid (hx11.trans (hx12.mono h6))
        have HH12 := Lib.hid (HH11.out.below hx12 HH11.out.lt); have HK12 := Lib.hid (HK11.out.below hx12 HK11.out.lt); have HF12 := Lib.hid (HF11.out.below hx12 HF11.out.lt)
        have HIA12 := Lib.hid (ia.below hx12); have HIB12 := Lib.hid (ib.below hx12)
        have HA12 := Lib.hid (HA6.out.below HX612.out); have HB12 := Lib.hid (HB6.out.below HX612.out)
        have HFF := Lib.hid hf12
        clear hb11 hoa hob ia ib hx11 hx12 hk12 hf12
        unfold fltV
        go_wp2_with fail
        refine (kints_any ws ws A11 A c11 c _ HIA12.out HA12.out (by omega)).mono ?_
        rintro e w13 ⟨rfl, m1, rfl⟩
        rw [eqB_self]
        clear x1 x2 x3 y1 y2 y3 z1 z2 z3
        go_wp2_with fail
        refine (kints_any rs rs B11 B d11 d _ (HIB12.out.below (belowN (World.heap _).size _ m1)) (HB12.out.below (belowN (World.heap _).size _ m1)) (by omega)).mono ?_
        rintro e w14 ⟨rfl, m2, rfl⟩
        rw [eqB_self]
        obtain ⟨z1, z2, z3, z4, z5⟩ := HFF.out.f2
        obtain ⟨x1, x2, x3⟩ := HH12.out.f1
        go_wp2_with fail
        clear x1 x2 x3 z1 z2 z3 z4 z5
        have hbN : Below w6.heap.size w6 (((w11.alloc (.cells #[.slice A11 ws.length c11] 33)).alloc (.cells #[.int .i64 0, .int .i64 0] 36)).drewN (m1 + m2)) := HX612.out.trans (belowN _ _ (m1 + m2))
        have HX613 := Lib.hid hbN
        have HH13 := Lib.hid (HH12.out.below (belowN (World.heap _).size _ (m1 + m2)) HH12.out.lt)
        have HK13 := Lib.hid (HK12.out.below (belowN (World.heap _).size _ (m1 + m2)) HK12.out.lt)
        have HF13 := Lib.hid (HF12.out.below (belowN (World.heap _).size _ (m1 + m2)) HF12.out.lt)
        have HA13 := Lib.hid (HA6.out.below hbN); have HB13 := Lib.hid (HB6.out.below hbN); have HC13 := Lib.hid (HC6.out.below hbN); have HD13 := Lib.hid (HD6.out.below hbN)
        clear hbN
        generalize (((w11.alloc (.cells #[.slice A11 ws.length c11] 33)).alloc (.cells #[.int .i64 0, .int .i64 0] 36)).drewN (m1 + m2)) = w13 at *
        refine (one_any ws rs fr ot A B C D c d c' d' w13 HA13.out hcap HW.out hl HB13.out HRI.out (by omega) HC13.out HFR.out (by omega) HD13.out HOT.out).mono ?_
        rintro e w30 ⟨hb30, A30, c30, B30, d30, rfl, hoa, hob⟩
        have hl30 : (becR ws rs fr ot false).1.length ≤ ws.length ∧ (becR ws rs fr ot false).2.length ≤ rs.length := becR_len
        have hE := Lib.hid (becR_err (ws := ws) (rs := rs) (fr := fr) (ot := ot) (both := false))
        have hZ := Lib.hid (becR_zero (ws := ws) (rs := rs) (fr := fr) (ot := ot) (both := false))
        have hL := Lib.hid (becF_len (ws := ws) (rs := rs) (fr := fr) (ot := ot) (both := false))
        generalize becF ws rs fr ot false = g at *
        generalize becR ws rs fr ot false = s at *
        obtain ⟨q5, q6⟩ := hl30
        obtain ⟨_, _, hke⟩ := own_ints hoa
        obtain ⟨_, _, hkf⟩ := own_ints hob
        obtain ⟨p1, p2, p3, p4, p5⟩ := put_boxes (v := w6) (K := w6.heap.size) HX613.out (Nat.le_refl _) HK13.out HF13.out hb30 hoa hob g.1 g.2
        have HH30 := Lib.hid (HH13.out.below hb30 HH13.out.lt); have HK30 := Lib.hid (HK13.out.below hb30 HK13.out.lt); have HF30 := Lib.hid (HF13.out.below hb30 HF13.out.lt)
        obtain ⟨y1, y2, y3⟩ := HK30.out.f1
        obtain ⟨z1, z2, z3, z4, z5⟩ := HF30.out.f2
        have HX31 := Lib.hid (HX6.out.trans (p1.mono HX6.out.size))
        have HC31 := Lib.hid (HC6.out.below p1); have HD31 := Lib.hid (HD6.out.below p1)
        have HIL := Lib.hid (own_ints p3).1
        obtain ⟨v1, v2, v3⟩ := p4.f1
        obtain ⟨u1, u2, u3, u4, u5⟩ := p5.f2
        clear p1 p2 p3 p4 p5 hb30 hoa hob
        unfold fltV
        cases hg : (g.1 != 0)
        · have g0 : g.1 = 0 := by simpa using hg
          have hlen : fr.length = ot.length := hL.out g0
          have hgone : ∀ i, i < fr.length → anyE ot (nth fr i) ot.length = false → ∀ j, j < s.2.length → (nth s.2 j == nth fr i) = false := fun i hi ha j hj => by
            have e : s.2 = rs.map (other fr ot false) := by rw [hZ.out g0]
            rw [beq_eq_false_iff_ne, e, nth_eq (by rw [← e]; exact hj), List.getElem_map]
            exact other_gone hlen hi (anyE_no ha) _
          have HGONE := Lib.hid hgone
          have hle : ot.length ≤ fr.length := by omega
          clear hgone hlen g0
          go_wp2_with fail
          clear y1 y2 y3 z1 z2 z3 z4 z5 v1 v2 v3 u1 u2 u3 u4 u5
          generalize (((w30.setCell ⟨w6.heap.size, 0, none⟩ (.slice A30 s.1.length c30)).setCell ⟨w6.heap.size + 1, 0, none⟩ (.int .i64 g.1)).setCell ⟨w6.heap.size + 1, 1, none⟩ (.int .i64 g.2)) = w31 at *
          go_loopw [17] (fun i wr => ∃ q m : Nat, i = .int .i64 q ∧ q ≤ fr.length ∧ wr = w31.drewN m) (fun i _ => fr.length - (intOf i).toNat)
          case atStart => exact ⟨0, 0, rfl, Nat.zero_le _, rfl⟩
          case round =>
            obtain ⟨q, m, rfl, hq, rfl⟩ := hrel
            by_cases hql : q < fr.length
            · obtain ⟨b1, o1, rfl, _, r1⟩ := HC31.out (by omega)
              have e1 := r1 q hql
              clear r1
              have g1 : (0 : Int) ≤ (q : Int) := by omega
              have g2 : (q : Int) < (fr.length : Int) := by omega
              go_wp2_with fail
              go_loopw [18, 19] (fun v i wr => ∃ (k m : Nat) (e : Bool), i = .int .i64 k ∧ k ≤ ot.length ∧ v = .bool e ∧ wr = w31.drewN m ∧ e = anyE ot (nth fr q) k) (fun _ i _ => ot.length - (intOf i).toNat)
              case atStart => exact ⟨0, m, _, rfl, Nat.zero_le _, rfl, rfl, rfl⟩
              case round =>
                obtain ⟨k, m, e, rfl, hk, rfl, rfl, he⟩ := hrel
                have HE := Lib.hid he; clear he
                by_cases hkl : k < ot.length
                · obtain ⟨b2, o2, rfl, _, r2⟩ := HD31.out (by omega)
                  have e2 := r2 k hkl
                  clear r2
                  have g3 : (0 : Int) ≤ (k : Int) := by omega
                  have g4 : (k : Int) < (ot.length : Int) := by omega
                  cases e
                  all_goals
                    go_wp2_with fail
                    go_quiet (fail)
                    go_wp2
                    go_roundw
                    case rel => exact ⟨k + 1, _, _, by go_num, by omega, rfl, rfl, by rw [anyE, ← HE.out]; simp⟩
                    case measure => simp [intOf]; omega
                · obtain rfl : k = ot.length := by omega
                  go_wp2_with fail
                  go_loopw [20] (fun i wr => ∃ j m : Nat, i = .int .i64 j ∧ j ≤ s.2.length ∧ wr = w31.drewN m) (fun i _ => s.2.length - (intOf i).toNat)
                  case atStart => exact ⟨0, m, rfl, Nat.zero_le _, rfl⟩
                  case round =>
                    obtain ⟨j, m, rfl, hj, rfl⟩ := hrel
                    by_cases hjl : j < s.2.length
                    · cases e
                      · obtain ⟨b3, o3, rfl, _, r3⟩ := HIL.out (by omega)
                        have e3 := r3 j hjl
                        clear r3
                        have hne := HGONE.out q hql HE.out.symm j hjl
                        have g5 : (0 : Int) ≤ (j : Int) := by omega
                        have g6 : (j : Int) < (s.2.length : Int) := by omega
                        go_wp2_with fail
                        go_quiet (fail)
                        go_wp2
                        go_roundw
                        case rel => exact ⟨j + 1, _, by go_num, by omega, rfl⟩
                        case measure => simp [intOf]; omega
                      · go_wp2
                        go_roundw
                        case rel => exact ⟨q + 1, _, by go_num, by omega, rfl⟩
                        case measure => simp [intOf]; omega
                    · obtain rfl : j = s.2.length := by omega
                      go_wp2
                      go_roundw
                      case rel => exact ⟨q + 1, _, by go_num, by omega, rfl⟩
                      case measure => simp [intOf]; omega
            · obtain rfl : q = fr.length := by omega
              go_wp2
              go_ret
              exact ⟨rfl, HX31.out.trans (belowN _ _ _)⟩
        · have es := hE.out (by simpa using hg)
          subst es
          go_wp2
          go_ret
          exact ⟨rfl, HX31.out⟩
  · go_wp2
    go_ret
    exact ⟨rfl, HX8.out⟩
end Go.Proofs.Ytjpppdacamhhfaa
