/- count.Counts: how often each thing is held, in order, or what is wrong. Conditions: the words are numbers of 64 bits. -/
import Derived.Test.YtjpppdacamhhfaaCountD
import Derived.Test.YtjpppdacamhhfaaDone
import Derived.Test.YtjpppdacamhhfaaMem5
namespace Go.Proofs.Ytjpppdacamhhfaa
open Go.RowKit
set_option linter.unusedVariables false

def cntL (ws rs : List Int) : List Int := (places ws).map (cntF (allL ws rs))
def CountsTold (ws rs : List Int) (w : World) (e : Ending) (w' : World) : Prop :=
  ∃ xs, (((rootsF ws rs).1 ≠ 0 ∧ xs = []) ∨ ((rootsF ws rs).1 = 0 ∧ xs = cntL ws rs)) ∧ Below w.heap.size w w' ∧ ∃ A c, e = .returned (.tuple #[.slice A xs.length c, fltV (rootsF ws rs).1 (rootsF ws rs).2]) ∧ Own w' w.heap.size (.slice A xs.length c) xs

set_option maxRecDepth 100000 in
set_option maxHeartbeats 2000000 in
theorem countCounts_any (ws rs : List Int) (A B : Option Addr) (c d : Nat) (w : World) (hA : Ints w A ws) (hcap : ws.length ≤ c) (hw : I64 ws) (hl : ws.length ≤ 9223372036854775807)
    (hB : Ints w B rs) (hr : I64 rs) (hrl : rs.length ≤ 1000000) : Calls Try.prog 59 #[.agg #[.slice A ws.length c], .slice B rs.length d] w (CountsTold ws rs w) := by
  have hx0 : Below w.heap.size w ((w.alloc (.cells #[.slice A ws.length c] 33)).alloc (.cells #[.int .i64 0, .int .i64 0] 36)) := ((Below.refl _ _).alloc (Nat.le_refl _) _).alloc (by simp) _
  have hh0 : Blk ((w.alloc (.cells #[.slice A ws.length c] 33)).alloc (.cells #[.int .i64 0, .int .i64 0] 36)) w.heap.size 33 #[.slice A ws.length c] := (Blk.new _ _ _).alloc _
  have hr2 : Blk ((w.alloc (.cells #[.slice A ws.length c] 33)).alloc (.cells #[.int .i64 0, .int .i64 0] 36)) (w.heap.size + 1) 36 #[.int .i64 0, .int .i64 0] := by
    have := Blk.new (w.alloc (.cells #[.slice A ws.length c] 33)) 36 #[.int .i64 0, .int .i64 0]
    simpa using this
  have HX0 := Lib.hid hx0; have HH0 := Lib.hid hh0; have HR2 := Lib.hid hr2
  have HA := Lib.hid (hA.below hx0); have HB := Lib.hid (hB.below hx0)
  have HW := Lib.hid hw; have HRW := Lib.hid hr
  clear hx0 hh0 hr2 hA hB hw hr
  go_enter Try.func59, Try.ntmps59
  go_wp2_with fail
  generalize hw1 : ((w.alloc (.cells #[.slice A ws.length c] 33)).alloc (.cells #[.int .i64 0, .int .i64 0] 36)) = w1 at *
  clear hw1
  refine (rsee_any ws rs A B c d w1 HA.out hcap HW.out hl HB.out HRW.out (by omega)).mono ?_
  rintro e w2 ⟨hb2, h⟩
  have HL2 := Lib.hid (HX0.out.trans (hb2.mono HX0.out.size))
  have HR22 := Lib.hid (HR2.out.below hb2 HR2.out.lt)
  have HB2 := Lib.hid (HB.out.below hb2)
  have hRlt : w.heap.size + 1 < w2.heap.size := HR22.out.lt
  clear hb2
  obtain ⟨z1, z2, z3, z4, z5⟩ := HR22.out.f2
  rcases h with ⟨h0, rfl⟩ | ⟨h0, g, rfl, hv⟩
  · have h1 : ((rootsF ws rs).1 != 0) = true := by simpa using h0
    have HN := Lib.hid h0
    clear h0
    unfold seeV fltV
    go_wp2_with fail
    go_region
    all_goals (try go_wp2)
    all_goals
      refine bodyPost_ret (v := .tuple #[.slice none 0 0, fltV (rootsF ws rs).1 (rootsF ws rs).2]) (by simp [results, Try.results59, go_sem, fltV, z1, z2, z5]) rfl ⟨[], .inl ⟨HN.out, rfl⟩, ?_, none, 0, rfl, Own.nil _ _⟩
      repeat (first | exact HL2.out | refine Below.drew ?_ | refine Below.setCell ?_ (by dsimp only; omega) _ | refine Below.alloc ?_ (by simp; omega) _)
  · obtain ⟨hokh, -, -, hfit, hz⟩ := rootsF_zero h0
    have HV := Lib.hid hv; have HOK := Lib.hid hokh; have HFIT := Lib.hid hfit; have HZ := Lib.hid hz
    have hq2 : ws.length ≤ 2000 := hokh.most
    clear hv hokh hz h0 hfit
    have hx3 : Below w2.heap.size w2 (w2.alloc (.cells #[.int .i64 0, .int .i64 0] 36)) := (Below.refl _ _).alloc (Nat.le_refl _) _
    have HF3 := Lib.hid (Blk.new w2 36 #[.int .i64 0, .int .i64 0])
    have HL3 := Lib.hid (HL2.out.trans (hx3.mono HL2.out.size))
    have HR23 := Lib.hid (HR22.out.below hx3 HR22.out.lt)
    have HB3 := Lib.hid (HB2.out.below hx3); have HV3 := Lib.hid (HV.out.below hx3)
    have hs3 : w2.heap.size < (w2.alloc (.cells #[.int .i64 0, .int .i64 0] 36)).heap.size := by simp
    clear hx3 z1 z2 z3 z4 z5
    unfold fltV
    go_wp2_with fail
    generalize hw3 : (w2.alloc (.cells #[.int .i64 0, .int .i64 0] 36)) = w3 at *
    clear hw3
    refine (counts_any ws rs g B d w3 HV3.out HOK.out HW.out HB3.out hrl HFIT.out).mono ?_
    rintro e w4 ⟨M, n, D, rfl, hm, hz, hM, hb4⟩
    have hv4 := HV3.out.below hb4
    obtain ⟨bq, oq, cq, Mq, A', oc, -, -, v2, hg, -, -, -, hord⟩ := hv4.cells
    have HM := Lib.hid hm; have HZ4 := Lib.hid hz; have HORD := Lib.hid hord
    have HF4 := Lib.hid (HF3.out.below hb4 hs3); have HR4 := Lib.hid (HR23.out.below hb4 HR23.out.lt)
    have HL4 := Lib.hid (HL3.out.trans (hb4.mono HL3.out.size))
    have hMl := hm.lt
    have hlp : (places ws).length ≤ ws.length := places_len ws
    have h34 : w3.heap.size ≤ w4.heap.size := hb4.size
    generalize hfun : cntF (allL ws rs) = f at *
    have hbdf : ∀ p, 0 ≤ f p := fun p => by rw [← hfun]; exact (cntF_bd _ p).1
    have HBDF := Lib.hid hbdf
    have HFUN := Lib.hid hfun
    clear hm hz hb4 hv4 hord hfun hbdf HV HV3 HB2 HB3
    go_wp2_with fail
    clear v2
    go_loopw [9, 30] (fun v i wr => ∃ j : Nat, i = .int .i64 j ∧ j ≤ (places ws).length ∧ Below w4.heap.size w4 wr ∧ Own wr w4.heap.size v (((places ws).take j).map f)) (fun _ i _ => (places ws).length - (intOf i).toNat)
    case atStart => exact ⟨0, rfl, Nat.zero_le _, Below.refl _ _, Own.nil _ _⟩
    case round =>
      obtain ⟨j, rfl, hj, hb5, hown5⟩ := hrel
      have HB5 := Lib.hid hb5; have HO5 := Lib.hid hown5
      have hws : w4.heap.size ≤ wr.heap.size := hb5.size
      clear hb5 hown5
      by_cases hjl : j < (places ws).length
      · obtain ⟨b1, o1, hA, -, r1⟩ := (HORD.out.below HB5.out) (by rw [ups_len]; omega)
        subst hA
        have e1 := r1 j (by rw [ups_len]; exact hjl)
        rw [ups_nth hjl, getD_el hjl] at e1
        have hpb := places_mem (List.getElem_mem hjl)
        have hTK : ((places ws).take (j + 1)).map f = ((places ws).take j).map f ++ [f (places ws)[j]] := by rw [List.take_succ_eq_append_getElem hjl, List.map_append, List.map_singleton]
        have HTK := Lib.hid hTK
        clear r1 hTK
        generalize (places ws)[j] = p at *
        obtain ⟨p2, pl, -⟩ := hpb
        have hrun := (HM.out.below HB5.out hMl).look (t := 110) (e := 3) Try.underlying110 (zero3 _) false (p : Int) (by omega) (by omega)
        rw [numM_get D f p (HZ4.out p)] at hrun
        simp only [Bool.false_eq_true, if_false] at hrun
        have hly : (((places ws).take j).map f).length ≤ 1000000000 := by simp; omega
        have hz6 : w4.heap.size ≤ (wr.alloc (.cells #[.int .i64 (f p)] 3)).heap.size := by rw [World.size_alloc]; omega
        go_wp2_with (at_builtin; refine wpList_pushN rfl _ _ rfl w4.heap.size _ (((places ws).take j).map f) rfl (HO5.out.alloc _) wr.heap.size 1 (f p) rfl (cell_new wr _ _ _ 0) hly hz6 ?_; intro g6 n6 cap6 w6 hown6 hg6 hgr6; have HO6 := Lib.hid hown6; have HB6 := Lib.hid ((HB5.out.alloc hws _).grown hgr6 hz6 (fun q hq => (HO5.out.lt q hq).1)); clear hown6 hgr6)
        go_roundw
        case rel => exact ⟨j + 1, by go_num, by omega, HB6.out, by rw [HTK.out]; exact HO6.out⟩
        case measure => simp [intOf]; omega
      · obtain rfl : j = (places ws).length := by omega
        have hO5 := HO5.out
        rw [List.take_length] at hO5
        obtain ⟨A5, c5, rfl, -⟩ := hO5.form2
        obtain ⟨z1, z2, z3, z4, z5⟩ := (HR4.out.below HB5.out HR4.out.lt).f2
        obtain ⟨r1, r2, r3, r4, r5⟩ := (HF4.out.below HB5.out HF4.out.lt).f2
        have HO6 := Lib.hid hO5
        have HL5 := Lib.hid (HL4.out.trans (HB5.out.mono (by have := HL4.out.size; omega)))
        have hl1 : w.heap.size + 1 < w4.heap.size := by omega
        clear hO5
        go_wp2_with fail
        go_region
        all_goals (try go_wp2)
        all_goals
          refine bodyPost_ret (v := .tuple #[.slice A5 ((places ws).map f).length c5, fltV 0 0]) (by simp [results, Try.results59, go_sem, fltV, z1, z2]) rfl ⟨(places ws).map f, .inr ⟨by rw [HZ.out], by unfold cntL; rw [HFUN.out]⟩, ?_, A5, c5, by rw [HZ.out], ?_⟩
          · repeat (first | exact HL5.out | refine Below.drew ?_ | refine Below.setCell ?_ (by dsimp only; omega) _ | refine Below.alloc ?_ (by simp; omega) _)
          · have hoo := HO6.out.mono (show w.heap.size ≤ w4.heap.size by omega)
            repeat (first | exact hoo | refine Own.setCell ?_ _ (fun e => by have := (HO6.out.lt _ e).1; dsimp only at this; omega) _ | refine Own.alloc ?_ _ | refine Own.drewN ?_ 1)
end Go.Proofs.Ytjpppdacamhhfaa
