/- heap.Put changes a slot, or tells what stands against it. Conditions: numbers of 64 bits. -/
import Derived.Test.YtjpppdacamhhfaaLook
namespace Go.Proofs.Ytjpppdacamhhfaa
open Go.RowKit
set_option linter.unusedVariables false

/-- What Put gives. -/
def putR (ws : List Int) (x at_ what : Int) : List Int × Int := if putE ws x at_ what = 0 then (putW ws x at_ what, 0) else ([], putE ws x at_ what)
def putOut (ws : List Int) (x at_ what : Int) : List Int × Int := if okB ws = true then putR ws x at_ what else ([], 7)
theorem putW_len (ws : List Int) (x at_ what : Int) : (putW ws x at_ what).length = ws.length := by simp [putW]
theorem putR_len (ws : List Int) (x at_ what : Int) : (putR ws x at_ what).1.length ≤ ws.length := by
  unfold putR
  split
  · rw [putW_len]; omega
  · simp
theorem putOut_len (ws : List Int) (x at_ what : Int) : (putOut ws x at_ what).1.length ≤ ws.length := by
  unfold putOut
  split
  · exact putR_len ws x at_ what
  · simp

/-- A heap of the call's own, a code. -/
def HeapOut2 (r : List Int × Int) (w : World) (e : Ending) (w' : World) : Prop :=
  Below w.heap.size w w' ∧ ∃ A c, e = .returned (.tuple #[.agg #[.slice A r.1.length c], .int .i64 r.2]) ∧ Own w' w.heap.size (.slice A r.1.length c) r.1
theorem heapOut2_err {w w' : World} (e : Int) (hb : Below w.heap.size w w') : HeapOut2 ([], e) w (.returned (.tuple #[.agg #[.slice none 0 0], .int .i64 e])) w' :=
  ⟨hb, none, 0, rfl, Own.nil _ _⟩

section
variable (ws : List Int) (A : Option Addr) (c : Nat) (x at_ what : Int) (w : World) (hA : Ints w A ws) (hcap : ws.length ≤ c) (hw : I64 ws) (hl : ws.length ≤ 9223372036854775807)
    (c1 : -9223372036854775808 ≤ x) (c2 : x ≤ 9223372036854775807) (f1 : -9223372036854775808 ≤ at_) (f2 : at_ ≤ 9223372036854775807) (s1 : -9223372036854775808 ≤ what) (s2 : what ≤ 9223372036854775807)
include hA hcap hw hl c1 c2 f1 f2 s1 s2

set_option maxRecDepth 100000 in
set_option maxHeartbeats 4000000 in
theorem put_any : Calls Try.prog 50 #[.agg #[.slice A ws.length c], .int .i64 x, .int .i64 at_, .int .i64 what] w (HeapOut2 (putOut ws x at_ what) w) := by
  have HA := Lib.hid ((hA.alloc (.cells #[.slice A ws.length c] 33)).alloc (.cells #[.slice none 0 0] 33)); clear hA
  have HW := Lib.hid hw; clear hw
  have hb0 : Blk ((w.alloc (.cells #[.slice A ws.length c] 33)).alloc (.cells #[.slice none 0 0] 33)) w.heap.size 33 #[.slice A ws.length c] := (Blk.new _ _ _).alloc _
  have hr0 : Blk ((w.alloc (.cells #[.slice A ws.length c] 33)).alloc (.cells #[.slice none 0 0] 33)) (w.heap.size + 1) 33 #[.slice none 0 0] := by
    have := Blk.new (w.alloc (.cells #[.slice A ws.length c] 33)) 33 #[.slice none 0 0]
    simpa using this
  have HB0 := Lib.hid hb0; have HR0 := Lib.hid hr0; clear hb0 hr0
  have HL0 : Hid (Below w.heap.size w ((w.alloc (.cells #[.slice A ws.length c] 33)).alloc (.cells #[.slice none 0 0] 33))) := ((Below.refl _ _).alloc (Nat.le_refl _) _).alloc (by simp) _
  go_enter Try.func50, Try.ntmps50
  go_wp2_with fail
  refine (look_any ws A c _ HA.out hcap HW.out (by omega)).mono ?_
  rintro e w1 ⟨hb1, h⟩
  have HL1 := Lib.hid (HL0.out.trans (hb1.mono (by simp; omega)))
  have HB1 := Lib.hid (HB0.out.below hb1 HB0.out.lt)
  have HR1 := Lib.hid (HR0.out.below hb1 HR0.out.lt)
  have HA1 := Lib.hid (HA.out.below hb1)
  clear hb1
  obtain ⟨x1, x2, x3⟩ := HB1.out.f1
  obtain ⟨y1, y2, y3⟩ := HR1.out.f1
  rcases h with ⟨h0, rfl⟩ | ⟨h0, g, rfl, hv⟩
  · have HE : Hid (putOut ws x at_ what = ([], 7)) := by show _ = _; unfold putOut; rw [if_neg (by rw [h0]; decide)]
    clear h0
    go_wp2
    rw [HE.out]
    exact bodyPost_ret (v := .tuple #[.agg #[.slice none 0 0], .int .i64 7]) (by simp [results, Try.results50, go_sem, y1]) rfl (heapOut2_err _ (HL1.out.setCell (by simp) _))
  have HOK := Lib.hid (okB_iff.1 h0)
  have HV := Lib.hid hv
  have HN : Hid (putOut ws x at_ what = putR ws x at_ what) := by show _ = _; unfold putOut; rw [if_pos h0]
  clear h0 hv
  cases hth : isTh ws x
  · have HE : Hid (putOut ws x at_ what = ([], 3)) := by show _ = _; rw [HN.out]; unfold putR putE; rw [if_pos hth]; rfl
    go_wp2_with (go_at_call 95; refine (isv_any HV.out _ (by omega) (by omega)).mono ?_; rintro e w' ⟨rfl, rfl⟩)
    rw [HE.out]
    exact bodyPost_ret (v := .tuple #[.agg #[.slice none 0 0], .int .i64 3]) (by simp [results, Try.results50, go_sem, y1]) rfl (heapOut2_err _ (HL1.out.setCell (by simp) _))
  obtain ⟨hfit, hp2, hpl⟩ := isTh_fit hth
  obtain ⟨hpm, hx⟩ := isTh_plc hth
  have HFIT := Lib.hid hfit
  obtain ⟨n1, n2, n3, n4, n5⟩ := not_bad hfit
  have HT := Lib.hid hth
  have hq2 : ws.length ≤ 2000 := HOK.out.most
  have hn6 : slotsN ws (plc x) ≤ 60 := by unfold slotsN; omega
  have hn7 : plc x + 3 + slotsN ws (plc x) ≤ ws.length := by unfold slotsN; omega
  have HPE : Hid (putE ws x at_ what = if at_ < 0 ∨ (slotsN ws (plc x) : Int) ≤ at_ then 4 else if standsB ws (formOf ws (plc x)) what = false then 2 else 0) := by
    show _ = _; unfold putE; rw [if_neg (by rw [hth]; decide)]; rfl
  have HPW : Hid (putW ws x at_ what = ws.set (plc x + 3 + at_.toNat) what) := rfl
  generalize plc x = p at *
  subst hx
  clear hfit hpm
  by_cases hrg : at_ < 0 ∨ (slotsN ws p : Int) ≤ at_
  · have HE : Hid (putOut ws (2 * (p : Int)) at_ what = ([], 4)) := by show _ = _; rw [HN.out]; unfold putR; rw [HPE.out, if_pos hrg]; rfl
    have hr : at_ < 0 ∨ (0 ≤ at_ ∧ (slotsN ws p : Int) ≤ at_) := by omega
    clear hrg
    rcases hr with r1 | ⟨r1, r2⟩
    all_goals
      go_wp2_with (first
        | (go_at_call 95; refine (isv_any HV.out _ (by omega) (by omega)).mono ?_; rintro e w' ⟨rfl, rfl⟩)
        | (go_at_call 98; refine (slotsv_any HV.out HW.out (by omega) p HFIT.out).mono ?_; rintro e w' ⟨A2, k2, m, rfl, hA2, rfl, hc2⟩))
      rw [HE.out]
      refine bodyPost_ret (v := .tuple #[.agg #[.slice none 0 0], .int .i64 4]) (by simp [results, Try.results50, go_sem, y1]) rfl (heapOut2_err _ ?_)
      first | exact HL1.out.setCell (by simp) _ | exact (HL1.out.trans (belowN _ _ _)).setCell (by simp) _
  have r1 : 0 ≤ at_ := by omega
  have r2 : at_ < (slotsN ws p : Int) := by omega
  obtain ⟨k, rfl⟩ : ∃ k : Nat, at_ = k := ⟨at_.toNat, by omega⟩
  cases hst : standsB ws (formOf ws p) what
  · have HE : Hid (putOut ws (2 * (p : Int)) k what = ([], 2)) := by show _ = _; rw [HN.out]; unfold putR; rw [HPE.out, if_neg hrg, if_pos hst]; rfl
    clear hrg
    go_wp2_with (first
      | (go_at_call 95; refine (isv_any HV.out _ (by omega) (by omega)).mono ?_; rintro e w' ⟨rfl, rfl⟩)
      | (go_at_call 98; refine (slotsv_any HV.out HW.out (by omega) p HFIT.out).mono ?_; rintro e w' ⟨A2, k2, m, rfl, hA2, rfl, hc2⟩)
      | (go_at_call 97; refine (formv_any (HV.out.drewN _) HW.out (by omega) p (by omega)).mono ?_; rintro e w' ⟨rfl, rfl⟩)
      | (go_at_call 99; refine (standsv_any (HV.out.drewN _) _ _ (by omega) (by omega)).mono ?_; rintro e w' ⟨rfl, rfl⟩))
    rw [HE.out]
    exact bodyPost_ret (v := .tuple #[.agg #[.slice none 0 0], .int .i64 2]) (by simp [results, Try.results50, go_sem, y1]) rfl (heapOut2_err _ ((HL1.out.trans (belowN _ _ _)).setCell (by simp) _))
  · have HE : Hid (putOut ws (2 * (p : Int)) k what = (ws.set (p + 3 + k) what, 0)) := by
      show _ = _
      rw [HN.out]; unfold putR
      have : putE ws (2 * (p : Int)) k what = 0 := by rw [HPE.out, if_neg hrg, if_neg (by rw [hst]; decide)]
      rw [if_pos this, HPW.out, Int.toNat_natCast]
    clear hrg
    go_wp2_with (first
      | (go_at_call 95; refine (isv_any HV.out _ (by omega) (by omega)).mono ?_; rintro e w' ⟨rfl, rfl⟩)
      | (go_at_call 98; refine (slotsv_any HV.out HW.out (by omega) p HFIT.out).mono ?_; rintro e w' ⟨A2, k2, m, rfl, hA2, rfl, hc2⟩)
      | (go_at_call 97; refine (formv_any (HV.out.drewN _) HW.out (by omega) p (by omega)).mono ?_; rintro e w' ⟨rfl, rfl⟩)
      | (go_at_call 99; refine (standsv_any (HV.out.drewN _) _ _ (by omega) (by omega)).mono ?_; rintro e w' ⟨rfl, rfl⟩)
      | (go_at_call 96; refine (clone_any ws A c (w1.drewN m) (HA1.out.drewN m) (by omega)).mono ?_; rintro e w2 ⟨hb2, A3, k3, rfl, hown3⟩; obtain ⟨g3, rfl, hg3, hg3', _, hk3⟩ := hown3.some_ (by omega); have hb12 : Below w1.heap.size w1 w2 := (belowN _ _ _).trans hb2; have hcc := hown3.cell (p + 3 + k) (by omega); have hff := hown3.frz (p + 3 + k); have HO := Lib.hid (hown3.put (p + 3 + k) what); obtain ⟨z1, z2, z3⟩ := (HR1.out.below hb12 HR1.out.lt).f1; have HB12 := Lib.hid hb12; clear hown3 hb12 hb2))
    rw [HE.out]
    have hg3s : w1.heap.size ≤ g3 := hg3
    refine bodyPost_ret (v := .tuple #[.agg #[.slice (some ⟨g3, 0, none⟩) ws.length k3], .int .i64 0]) (by simp [results, Try.results50, go_sem, z1]) rfl ⟨((HL1.out.trans (HB12.out.mono HL1.out.size)).setCell (by dsimp only; omega) _).setCell (by simp) _, some ⟨g3, 0, none⟩, k3, ?_, ?_⟩
    · dsimp only; rw [List.length_set]
    · dsimp only; rw [List.length_set]
      exact (HO.out.mono HL1.out.size).setCell _ (by simp [Value.ownBlock]; omega) _
end
end Go.Proofs.Ytjpppdacamhhfaa
