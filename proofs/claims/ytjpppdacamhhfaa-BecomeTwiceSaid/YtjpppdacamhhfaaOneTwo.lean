/- One and Two: what they give is what their common part gives. Conditions: the words are numbers of 64 bits. -/
import Derived.Test.YtjpppdacamhhfaaDone
namespace Go.Proofs.Ytjpppdacamhhfaa
open Go.RowKit
set_option linter.unusedVariables false

theorem doneOut_up {w v w' : World} {f : Int × Nat} {r : List Int × List Int} {e : Ending} (hb : Below w.heap.size w v) (h : DoneOut f r v e w') : DoneOut f r w e w' := by
  obtain ⟨h1, A, c, B, d, he, ha, hb'⟩ := h
  exact ⟨hb.trans (h1.mono hb.size), A, c, B, d, he, ha.mono hb.size, hb'.mono hb.size⟩

section
variable (ws rs fr ot : List Int) (A B C D : Option Addr) (c d c' d' : Nat) (w : World) (hA : Ints w A ws) (hcap : ws.length ≤ c) (hw : I64 ws) (hl : ws.length ≤ 9223372036854775807)
    (hB : Ints w B rs) (hr : I64 rs) (hrl : rs.length ≤ 1000000) (hC : Ints w C fr) (hfr : I64 fr) (hfl : fr.length ≤ 1000000) (hD : Ints w D ot) (hot : I64 ot)
include hA hcap hw hl hB hr hrl hC hfr hfl hD hot

set_option maxRecDepth 100000 in
theorem one_any : Calls Try.prog 65 #[.agg #[.slice A ws.length c], .slice C fr.length c', .slice D ot.length d', .slice B rs.length d] w (DoneOut (becF ws rs fr ot false) (becR ws rs fr ot false) w) := by
  have hx0 : Below w.heap.size w (((w.alloc (.cells #[.slice A ws.length c] 33)).alloc (.cells #[.slice none 0 0] 33)).alloc (.cells #[.int .i64 0, .int .i64 0] 36)) := (((Below.refl _ _).alloc (Nat.le_refl _) _).alloc (by simp) _).alloc (by simp; omega) _
  have hr1 : Blk (((w.alloc (.cells #[.slice A ws.length c] 33)).alloc (.cells #[.slice none 0 0] 33)).alloc (.cells #[.int .i64 0, .int .i64 0] 36)) (w.heap.size + 1) 33 #[.slice none 0 0] := by
    have := Blk.new (w.alloc (.cells #[.slice A ws.length c] 33)) 33 #[.slice none 0 0]
    exact Blk.alloc (by simpa using this) _
  have hr2 : Blk (((w.alloc (.cells #[.slice A ws.length c] 33)).alloc (.cells #[.slice none 0 0] 33)).alloc (.cells #[.int .i64 0, .int .i64 0] 36)) (w.heap.size + 1 + 1) 36 #[.int .i64 0, .int .i64 0] := by
    have := Blk.new ((w.alloc (.cells #[.slice A ws.length c] 33)).alloc (.cells #[.slice none 0 0] 33)) 36 #[.int .i64 0, .int .i64 0]
    simpa using this
  have HX0 := Lib.hid hx0; have HR1 := Lib.hid hr1; have HR2 := Lib.hid hr2
  have HA := Lib.hid (hA.below hx0); have HB := Lib.hid (hB.below hx0); have HC := Lib.hid (hC.below hx0); have HD := Lib.hid (hD.below hx0)
  have HW := Lib.hid hw; have HR := Lib.hid hr; have HFR := Lib.hid hfr; have HOT := Lib.hid hot
  have hz : w.heap.size + 3 = (((w.alloc (.cells #[.slice A ws.length c] 33)).alloc (.cells #[.slice none 0 0] 33)).alloc (.cells #[.int .i64 0, .int .i64 0] 36)).heap.size := by simp
  have HZ := Lib.hid hz
  clear hx0 hr1 hr2 hA hB hC hD hw hr hfr hot hz
  go_enter Try.func65, Try.ntmps65
  go_wp2_with fail
  generalize ((w.alloc (.cells #[.slice A ws.length c] 33)).alloc (.cells #[.slice none 0 0] 33)).alloc (.cells #[.int .i64 0, .int .i64 0] 36) = w1 at *
  refine (done_any ws rs fr ot A B C D c d c' d' false w1 HA.out hcap HW.out hl HB.out HR.out hrl HC.out HFR.out hfl HD.out HOT.out).mono ?_
  rintro e w2 ⟨hb, A2, c2, B2, d2, rfl, hoa, hob⟩
  have HB2 := Lib.hid hb; have HOA := Lib.hid hoa; have HOB := Lib.hid hob
  obtain ⟨x1, x2, x3⟩ := (HR1.out.below hb HR1.out.lt).f1
  obtain ⟨y1, y2, y3, y4, y5⟩ := (HR2.out.below hb HR2.out.lt).f2
  have hbz := hb.size
  have hzz := HZ.out
  have hx1 : w.heap.size ≤ w1.heap.size := HX0.out.size
  clear hb hoa hob
  unfold fltV
  go_wp2_with fail
  refine bodyPost_ret (v := .tuple #[.agg #[.slice A2 (becR ws rs fr ot false).1.length c2], .slice B2 (becR ws rs fr ot false).2.length d2, fltV (becF ws rs fr ot false).1 (becF ws rs fr ot false).2]) (by simp [results, Try.results65, go_sem, fltV, x1, y1, y2]) rfl ⟨?_, A2, c2, B2, d2, rfl, ?_, ?_⟩
  · repeat (first | exact HX0.out.trans (HB2.out.mono hx1) | refine Below.setCell ?_ (by dsimp only; omega) _)
  · repeat (first | exact HOA.out.mono hx1 | refine Own.setCell ?_ _ (fun e => by have := (HOA.out.lt _ e).1; dsimp only at this; omega) _)
  · repeat (first | exact HOB.out.mono hx1 | refine Own.setCell ?_ _ (fun e => by have := (HOB.out.lt _ e).1; dsimp only at this; omega) _)

set_option maxRecDepth 100000 in
theorem two_any : Calls Try.prog 66 #[.agg #[.slice A ws.length c], .slice C fr.length c', .slice D ot.length d', .slice B rs.length d] w (DoneOut (becF ws rs fr ot true) (becR ws rs fr ot true) w) := by
  have hx0 : Below w.heap.size w (((w.alloc (.cells #[.slice A ws.length c] 33)).alloc (.cells #[.slice none 0 0] 33)).alloc (.cells #[.int .i64 0, .int .i64 0] 36)) := (((Below.refl _ _).alloc (Nat.le_refl _) _).alloc (by simp) _).alloc (by simp; omega) _
  have hr1 : Blk (((w.alloc (.cells #[.slice A ws.length c] 33)).alloc (.cells #[.slice none 0 0] 33)).alloc (.cells #[.int .i64 0, .int .i64 0] 36)) (w.heap.size + 1) 33 #[.slice none 0 0] := by
    have := Blk.new (w.alloc (.cells #[.slice A ws.length c] 33)) 33 #[.slice none 0 0]
    exact Blk.alloc (by simpa using this) _
  have hr2 : Blk (((w.alloc (.cells #[.slice A ws.length c] 33)).alloc (.cells #[.slice none 0 0] 33)).alloc (.cells #[.int .i64 0, .int .i64 0] 36)) (w.heap.size + 1 + 1) 36 #[.int .i64 0, .int .i64 0] := by
    have := Blk.new ((w.alloc (.cells #[.slice A ws.length c] 33)).alloc (.cells #[.slice none 0 0] 33)) 36 #[.int .i64 0, .int .i64 0]
    simpa using this
  have HX0 := Lib.hid hx0; have HR1 := Lib.hid hr1; have HR2 := Lib.hid hr2
  have HA := Lib.hid (hA.below hx0); have HB := Lib.hid (hB.below hx0); have HC := Lib.hid (hC.below hx0); have HD := Lib.hid (hD.below hx0)
  have HW := Lib.hid hw; have HR := Lib.hid hr; have HFR := Lib.hid hfr; have HOT := Lib.hid hot
  have hz : w.heap.size + 3 = (((w.alloc (.cells #[.slice A ws.length c] 33)).alloc (.cells #[.slice none 0 0] 33)).alloc (.cells #[.int .i64 0, .int .i64 0] 36)).heap.size := by simp
  have HZ := Lib.hid hz
  clear hx0 hr1 hr2 hA hB hC hD hw hr hfr hot hz
  go_enter Try.func66, Try.ntmps66
  go_wp2_with fail
  generalize ((w.alloc (.cells #[.slice A ws.length c] 33)).alloc (.cells #[.slice none 0 0] 33)).alloc (.cells #[.int .i64 0, .int .i64 0] 36) = w1 at *
  refine (done_any ws rs fr ot A B C D c d c' d' true w1 HA.out hcap HW.out hl HB.out HR.out hrl HC.out HFR.out hfl HD.out HOT.out).mono ?_
  rintro e w2 ⟨hb, A2, c2, B2, d2, rfl, hoa, hob⟩
  have HB2 := Lib.hid hb; have HOA := Lib.hid hoa; have HOB := Lib.hid hob
  obtain ⟨x1, x2, x3⟩ := (HR1.out.below hb HR1.out.lt).f1
  obtain ⟨y1, y2, y3, y4, y5⟩ := (HR2.out.below hb HR2.out.lt).f2
  have hbz := hb.size
  have hzz := HZ.out
  have hx1 : w.heap.size ≤ w1.heap.size := HX0.out.size
  clear hb hoa hob
  unfold fltV
  go_wp2_with fail
  refine bodyPost_ret (v := .tuple #[.agg #[.slice A2 (becR ws rs fr ot true).1.length c2], .slice B2 (becR ws rs fr ot true).2.length d2, fltV (becF ws rs fr ot true).1 (becF ws rs fr ot true).2]) (by simp [results, Try.results66, go_sem, fltV, x1, y1, y2]) rfl ⟨?_, A2, c2, B2, d2, rfl, ?_, ?_⟩
  · repeat (first | exact HX0.out.trans (HB2.out.mono hx1) | refine Below.setCell ?_ (by dsimp only; omega) _)
  · repeat (first | exact HOA.out.mono hx1 | refine Own.setCell ?_ _ (fun e => by have := (HOA.out.lt _ e).1; dsimp only at this; omega) _)
  · repeat (first | exact HOB.out.mono hx1 | refine Own.setCell ?_ _ (fun e => by have := (HOB.out.lt _ e).1; dsimp only at this; omega) _)
end
end Go.Proofs.Ytjpppdacamhhfaa
