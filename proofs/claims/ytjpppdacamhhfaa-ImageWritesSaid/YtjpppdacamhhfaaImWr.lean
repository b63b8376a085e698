/- image.Write. Conditions: the words are numbers of 64 bits. -/
import Derived.Test.YtjpppdacamhhfaaImW
import Derived.Test.YtjpppdacamhhfaaRoots
import Derived.Lib.SlBytesConst
import Derived.Deep.RegionHeld3
namespace Go.Proofs.Ytjpppdacamhhfaa
open Go.RowKit
set_option linter.unusedVariables false

theorem clip_any (a : Addr) (n c : Nat) (w : World) (hn : 0 < n) (hc : n ≤ c) : Calls Try.prog 122 #[.slice (some a) n c] w fun e w' => e = .returned (.slice (some a) n n) ∧ w = w' := by
  have h1 : (n : Int) ≤ (c : Int) := by omega
  have h2 : (0 : Int) < (n : Int) := by omega
  have h3 : (0 : Int) ≤ (n : Int) := by omega
  have h4 : ¬ n = 0 := by omega
  go_enter Try.func122, Try.ntmps122
  go_wp2
  go_ret
  exact ⟨rfl, rfl⟩

theorem ownV_form {w : World} {base : Nat} {v : Value} {bs : List Int} (h : OwnV w base v bs) (hl : 0 < bs.length) : ∃ b c, v = .slice (some ⟨b, 0, none⟩) bs.length c ∧ bs.length ≤ c ∧ b < w.heap.size ∧ RowU w b 0 bs := by
  rcases h with h | ⟨b, rfl, hb, hr⟩
  · obtain ⟨A, c, rfl, hi, hc, ha⟩ := h.form2
    obtain ⟨b, o, rfl, hb, hr⟩ := hi hl
    obtain ⟨-, -, e⟩ := ha _ rfl
    injection e with e1 e2 e3
    subst e2
    exact ⟨b, c, rfl, hc, hb, hr⟩
  · exact ⟨b, _, rfl, Nat.le_refl _, hb, hr⟩
theorem listB_len {l : List Int} (h : I64 l) (hl : l.length ≤ 1000000) : (listB l).length ≤ 10 + 10 * l.length := by
  unfold listB
  rw [List.length_append]
  have h1 := numB_len (n := (l.length : Int)) (by omega) (by omega)
  have h2 := numBs_len h.mem
  omega
/-- What is told of writing an image. -/
def wrF (ws rs : List Int) : Int × Nat := if (rootsF ws rs).1 = 0 ∧ 600 < rs.length then (1, 0) else rootsF ws rs
def WriteTold (ws rs : List Int) (w : World) (e : Ending) (w' : World) : Prop :=
  Below w.heap.size w w' ∧ (((wrF ws rs).1 ≠ 0 ∧ e = .returned (.tuple #[.slice none 0 0, fltV (wrF ws rs).1 (wrF ws rs).2])) ∨
    ((wrF ws rs).1 = 0 ∧ ∃ b c, e = .returned (.tuple #[.slice (some ⟨b, 0, none⟩) (imgB ws rs).length c, fltV 0 0]) ∧ b < w'.heap.size ∧ RowU w' b 0 (imgB ws rs)))

set_option maxRecDepth 100000 in
set_option maxHeartbeats 8000000 in
theorem write_any (ws rs : List Int) (A B : Option Addr) (c d : Nat) (w : World) (hA : Ints w A ws) (hcap : ws.length ≤ c) (hw : I64 ws) (hl : ws.length ≤ 9223372036854775807)
    (hB : Ints w B rs) (hr : I64 rs) (hrl : rs.length ≤ 1000000) :
    Calls Try.prog 70 #[.agg #[.slice A ws.length c], .slice B rs.length d] w (WriteTold ws rs w) := by
  have hx0 : Below w.heap.size w ((w.alloc (.cells #[.slice A ws.length c] 33)).alloc (.cells #[.int .i64 0, .int .i64 0] 36)) := ((Below.refl _ _).alloc (Nat.le_refl _) _).alloc (by simp) _
  have hh0 : Blk ((w.alloc (.cells #[.slice A ws.length c] 33)).alloc (.cells #[.int .i64 0, .int .i64 0] 36)) w.heap.size 33 #[.slice A ws.length c] := (Blk.new _ _ _).alloc _
  have hr2 : Blk ((w.alloc (.cells #[.slice A ws.length c] 33)).alloc (.cells #[.int .i64 0, .int .i64 0] 36)) (w.heap.size + 1) 36 #[.int .i64 0, .int .i64 0] := by
    have := Blk.new (w.alloc (.cells #[.slice A ws.length c] 33)) 36 #[.int .i64 0, .int .i64 0]
    rwa [World.size_alloc] at this
  have HX0 := Lib.hid hx0; have HH0 := Lib.hid hh0; have HR0 := Lib.hid hr2
  have HA := Lib.hid (hA.below hx0); have HB := Lib.hid (hB.below hx0)
  have HW := Lib.hid hw; have HRW := Lib.hid hr
  clear hx0 hh0 hr2 hA hB hw hr
  go_enter Try.func70, Try.ntmps70
  go_wp2_with fail
  generalize hw1 : ((w.alloc (.cells #[.slice A ws.length c] 33)).alloc (.cells #[.int .i64 0, .int .i64 0] 36)) = w1 at *
  clear hw1
  refine (rsee_any ws rs A B c d w1 HA.out hcap HW.out hl HB.out HRW.out (by omega)).mono ?_
  rintro e w2 ⟨hb2, h⟩
  have HX2 := Lib.hid (HX0.out.trans (hb2.mono HX0.out.size))
  have HR2 := Lib.hid (HR0.out.below hb2 HR0.out.lt); have HH2 := Lib.hid (HH0.out.below hb2 HH0.out.lt)
  have HA2 := Lib.hid (HA.out.below hb2); have HB2 := Lib.hid (HB.out.below hb2)
  have hRlt : w.heap.size + 1 < w2.heap.size := HR2.out.lt
  clear hb2 HA HB HX0 HR0 HH0
  obtain ⟨z1, z2, z3, z4, z5⟩ := HR2.out.f2
  rcases h with ⟨h0, rfl⟩ | ⟨h0, ga, rfl, hv⟩
  · have h1 : ((rootsF ws rs).1 != 0) = true := by simpa using h0
    have h2 : ((rootsF ws rs).1 == 0) = false := by simpa using h0
    have hwf : wrF ws rs = rootsF ws rs := if_neg (fun e => h0 e.1)
    have HWF := Lib.hid hwf; have HN := Lib.hid h0
    clear h0 hwf
    have hf3 : Blk (w2.alloc (.cells #[.int .i64 (rootsF ws rs).1, .int .i64 (rootsF ws rs).2] 36)) w2.heap.size 36 #[.int .i64 (rootsF ws rs).1, .int .i64 (rootsF ws rs).2] := Blk.new _ _ _
    have HF3 := Lib.hid hf3
    have HR3 := Lib.hid (HR2.out.alloc (.cells #[.int .i64 (rootsF ws rs).1, .int .i64 (rootsF ws rs).2] 36))
    have HL3 := Lib.hid (HX2.out.alloc (by omega) (.cells #[.int .i64 (rootsF ws rs).1, .int .i64 (rootsF ws rs).2] 36))
    clear z1 z2 z3 z4 z5 hf3
    unfold seeV fltV
    go_wp2_with fail
    generalize (w2.alloc (.cells #[.int .i64 (rootsF ws rs).1, .int .i64 (rootsF ws rs).2] 36)) = w3 at *
    obtain ⟨z1, z2, z3, z4, z5⟩ := HR3.out.f2
    obtain ⟨y1, y2, y3, y4, y5⟩ := HF3.out.f2
    go_region
    all_goals (try go_wp2)
    all_goals
      refine bodyPost_ret (v := .tuple #[.slice none 0 0, fltV (rootsF ws rs).1 (rootsF ws rs).2]) (by simp [results, Try.results70, go_sem, fltV, z1, z2]) rfl ⟨?_, .inl ⟨by rw [HWF.out]; exact HN.out, by rw [HWF.out]⟩⟩
      repeat (first | exact HL3.out | refine Below.drew ?_ | refine Below.setCell ?_ (by dsimp only; omega) _)
  obtain ⟨hokh, -, -, hfit, hz⟩ := rootsF_zero h0
  have hq1 : ws.length ≤ 2000 := hokh.most
  have HZ := Lib.hid hz; have HZ0 := Lib.hid h0
  clear hv hokh hfit hz h0
  by_cases h6 : 600 < rs.length
  · have hwf : wrF ws rs = (1, 0) := if_pos ⟨HZ0.out, h6⟩
    have HWF := Lib.hid hwf
    have hi6 : (600 : Int) < (rs.length : Int) := by omega
    have HR3 := Lib.hid (HR2.out.alloc (.cells #[.int .i64 1, .int .i64 0] 36))
    have HF3 := Lib.hid (Blk.new w2 36 #[.int .i64 1, .int .i64 0])
    have HL3 := Lib.hid (HX2.out.alloc (by omega) (.cells #[.int .i64 1, .int .i64 0] 36))
    clear hwf z1 z2 z3 z4 z5
    unfold fltV
    go_wp2_with fail
    generalize (w2.alloc (.cells #[.int .i64 1, .int .i64 0] 36)) = w3 at *
    obtain ⟨z1, z2, z3, z4, z5⟩ := HR3.out.f2
    obtain ⟨y1, y2, y3, y4, y5⟩ := HF3.out.f2
    go_region
    all_goals (try go_wp2)
    all_goals
      refine bodyPost_ret (v := .tuple #[.slice none 0 0, fltV 1 0]) (by simp [results, Try.results70, go_sem, fltV, z1, z2]) rfl ⟨?_, .inl ⟨by rw [HWF.out]; decide, by rw [HWF.out]⟩⟩
      repeat (first | exact HL3.out | refine Below.drew ?_ | refine Below.setCell ?_ (by dsimp only; omega) _)
  · have hwf : wrF ws rs = (0, 0) := (if_neg (fun e => h6 e.2)).trans HZ.out
    have HWF := Lib.hid hwf
    have hi6 : ¬ (600 : Int) < (rs.length : Int) := by omega
    have hcv := Go.Lib.run_convert_bytes_const (P := Try.prog) (w2.alloc (.cells #[.int .i64 0, .int .i64 0] 36)) 70 5 #[.int .u8 71, .int .u8 69] 2 2 Try.underlying70 Try.underlying5
    simp only [World.size_alloc] at hcv
    have hc0 := cell_new (w2.alloc (.cells #[.int .i64 0, .int .i64 0] 36)) #[.int .u8 71, .int .u8 69] 5 (2, 3) 0
    have hc1 := cell_new (w2.alloc (.cells #[.int .i64 0, .int .i64 0] 36)) #[.int .u8 71, .int .u8 69] 5 (2, 3) 1
    simp only [World.size_alloc] at hc0 hc1
    have hg := Blk.new ((w2.alloc (.cells #[.int .i64 0, .int .i64 0] 36)).alloc (.cells #[.int .u8 71, .int .u8 69] 5 (2, 3))) 138 #[.slice (some ⟨w2.heap.size + 1, 0, none⟩) 2 2]
    simp only [World.size_alloc] at hg
    have hx24 : Below w2.heap.size w2 (((w2.alloc (.cells #[.int .i64 0, .int .i64 0] 36)).alloc (.cells #[.int .u8 71, .int .u8 69] 5 (2, 3))).alloc (.cells #[.slice (some ⟨w2.heap.size + 1, 0, none⟩) 2 2] 138)) :=
      (((Below.refl _ _).alloc (Nat.le_refl _) _).alloc (by simp) _).alloc (by simp; omega) _
    have hf4 : Blk (((w2.alloc (.cells #[.int .i64 0, .int .i64 0] 36)).alloc (.cells #[.int .u8 71, .int .u8 69] 5 (2, 3))).alloc (.cells #[.slice (some ⟨w2.heap.size + 1, 0, none⟩) 2 2] 138)) w2.heap.size 36 #[.int .i64 0, .int .i64 0] := ((Blk.new w2 36 #[.int .i64 0, .int .i64 0]).alloc _).alloc _
    have hrow : RowU (((w2.alloc (.cells #[.int .i64 0, .int .i64 0] 36)).alloc (.cells #[.int .u8 71, .int .u8 69] 5 (2, 3))).alloc (.cells #[.slice (some ⟨w2.heap.size + 1, 0, none⟩) 2 2] 138)) (w2.heap.size + 1) 0 [71, 69] := by
      have hr1 : RowU ((w2.alloc (.cells #[.int .i64 0, .int .i64 0] 36)).alloc (.cells #[.int .u8 71, .int .u8 69] 5 (2, 3))) (w2.heap.size + 1) 0 [71, 69] := fun j hj => by
        rcases (show j = 0 ∨ j = 1 by simp at hj; omega) with rfl | rfl
        · exact hc0
        · exact hc1
      exact hr1.below ((Below.refl _ _).alloc (Nat.le_refl _) _) (by simp)
    have hz4 : (((w2.alloc (.cells #[.int .i64 0, .int .i64 0] 36)).alloc (.cells #[.int .u8 71, .int .u8 69] 5 (2, 3))).alloc (.cells #[.slice (some ⟨w2.heap.size + 1, 0, none⟩) 2 2] 138)).heap.size = w2.heap.size + 1 + 1 + 1 := by simp
    have HG := Lib.hid hg; have HX24 := Lib.hid hx24; have HF4 := Lib.hid hf4; have HROW := Lib.hid hrow
    have HH4 := Lib.hid (HH2.out.below hx24 HH2.out.lt); have HR4 := Lib.hid (HR2.out.below hx24 HR2.out.lt)
    obtain ⟨x1, x2, x3⟩ := HH4.out.f1
    clear hwf hc0 hc1 hg hx24 hf4 hrow z1 z2 z3 z4 z5
    unfold fltV
    go_wp2_with fail
    clear x1 x2 x3 hcv
    generalize (((w2.alloc (.cells #[.int .i64 0, .int .i64 0] 36)).alloc (.cells #[.int .u8 71, .int .u8 69] 5 (2, 3))).alloc (.cells #[.slice (some ⟨w2.heap.size + 1, 0, none⟩) 2 2] 138)) = w4 at *
    have hwr : WrI w4 (w2.heap.size + 1 + 1) [71, 69] := ⟨_, HG.out, .inr ⟨w2.heap.size + 1, rfl, by omega, HROW.out⟩⟩
    refine (wlist_any (w2.heap.size + 1 + 1) c A [71, 69] ws w4 hwr (by simp) (fun W h => HA2.out.below (HX24.out.trans (h.mono (by omega)))) HW.out (by omega)).mono ?_
    rintro e w5 ⟨rfl, hw5, hb5⟩
    have HB5 := Lib.hid hb5; have HW5 := Lib.hid hw5
    clear hwr hb5 hw5
    have hb1 := listB_len HW.out (by omega : ws.length ≤ 1000000)
    have hbr := listB_len HRW.out hrl
    go_wp2_with fail
    refine (wlist_any (w2.heap.size + 1 + 1) d B ([71, 69] ++ listB ws) rs w5 HW5.out (by rw [List.length_append]; show 2 + _ ≤ _; omega) (fun W h => HB2.out.below (HX24.out.trans ((HB5.out.trans h).mono (by omega)))) HRW.out hrl).mono ?_
    rintro e w6 ⟨rfl, ⟨v, hg6, ho6⟩, hb6⟩
    have hb46 := HB5.out.trans hb6
    have himg : [71, 69] ++ listB ws ++ listB rs = imgB ws rs := rfl
    rw [himg] at ho6
    have hpos : 0 < (imgB ws rs).length := by unfold imgB; simp
    obtain ⟨b, cb, rfl, hcb, hbl, hrow⟩ := ownV_form ho6 hpos
    have HROW6 := Lib.hid hrow; have HG6 := Lib.hid hg6
    have HR6 := Lib.hid (HR4.out.below hb46 (by omega)); have HF6 := Lib.hid (HF4.out.below hb46 (by omega))
    have HX6 := Lib.hid (HX2.out.trans ((HX24.out.trans (hb46.mono (by omega))).mono (by omega)))
    have HPOS := Lib.hid hpos
    clear hb46 himg hrow hg6 ho6 hb6 HW5 HB5 HG HX24 HF4 HROW HH4 HR4 hpos
    generalize hnb : (imgB ws rs).length = nb at *
    have HNB := Lib.hid hnb
    clear hnb
    obtain ⟨x1, x2, x3⟩ := HG6.out.f1
    obtain ⟨z1, z2, z3, z4, z5⟩ := HR6.out.f2
    obtain ⟨y1, y2, y3, y4, y5⟩ := HF6.out.f2
    go_wp2_with fail
    have hclip : ∀ W, Calls Try.prog 122 #[.slice (some ⟨b, 0, none⟩) nb cb] W fun e w' => e = .returned (.slice (some ⟨b, 0, none⟩) nb nb) ∧ W = w' := fun W => clip_any ⟨b, 0, none⟩ nb cb W HPOS.out hcb
    have HCLIP := Lib.hid hclip
    clear hclip
    have hS0 : w6.drew.cell? ⟨w2.heap.size + 1 + 1, 0, none⟩ = some (.slice (some ⟨b, 0, none⟩) nb cb) ∧ w6.drew.cell? ⟨w2.heap.size, 0, none⟩ = some (.int .i64 0) ∧ w6.drew.cell? ⟨w2.heap.size, 1, none⟩ = some (.int .i64 0) ∧
        w6.drew.cell? ⟨w.heap.size + 1, 0, none⟩ = some (.int .i64 0) ∧ w6.drew.cell? ⟨w.heap.size + 1, 1, none⟩ = some (.int .i64 0) ∧ w6.drew.frozen? ⟨w.heap.size + 1, 0, none⟩ = false ∧ w6.drew.frozen? ⟨w.heap.size + 1, 1, none⟩ = false := ⟨x1, y1, y2, z1, z2, z3, z4⟩
    have s0 : w6.setCell ⟨w.heap.size + 1, 0, none⟩ (.int .i64 0) = w6 := setCell_same HR6.out rfl
    have s1 : w6.setCell ⟨w.heap.size + 1, 1, none⟩ (.int .i64 0) = w6 := setCell_same HR6.out rfl
    have hS1 : (fun W : World => W.cell? ⟨w2.heap.size + 1 + 1, 0, none⟩ = some (.slice (some ⟨b, 0, none⟩) nb cb) ∧ W.cell? ⟨w2.heap.size, 0, none⟩ = some (.int .i64 0) ∧ W.cell? ⟨w2.heap.size, 1, none⟩ = some (.int .i64 0) ∧ W.cell? ⟨w.heap.size + 1, 0, none⟩ = some (.int .i64 0) ∧ W.cell? ⟨w.heap.size + 1, 1, none⟩ = some (.int .i64 0) ∧ W.frozen? ⟨w.heap.size + 1, 0, none⟩ = false ∧ W.frozen? ⟨w.heap.size + 1, 1, none⟩ = false) ((w6.setCell ⟨w.heap.size + 1, 0, none⟩ (.int .i64 0)).setCell ⟨w.heap.size + 1, 1, none⟩ (.int .i64 0)).drew := by rw [s0, s1]; exact hS0
    go_region_held3 (fun W => W.cell? ⟨w2.heap.size + 1 + 1, 0, none⟩ = some (.slice (some ⟨b, 0, none⟩) nb cb) ∧ W.cell? ⟨w2.heap.size, 0, none⟩ = some (.int .i64 0) ∧ W.cell? ⟨w2.heap.size, 1, none⟩ = some (.int .i64 0) ∧
        W.cell? ⟨w.heap.size + 1, 0, none⟩ = some (.int .i64 0) ∧ W.cell? ⟨w.heap.size + 1, 1, none⟩ = some (.int .i64 0) ∧ W.frozen? ⟨w.heap.size + 1, 0, none⟩ = false ∧ W.frozen? ⟨w.heap.size + 1, 1, none⟩ = false)
      (first | exact hS0 | exact hS1 | go_keep)
      (first | (go_at_call 122; with_reducible refine (HCLIP.out _).mono ?_; rintro e w7 ⟨rfl, rfl⟩))
    all_goals (try go_wp2)
    all_goals
      refine bodyPost_ret (v := .tuple #[.slice (some ⟨b, 0, none⟩) nb nb, fltV 0 0]) (by simp [results, Try.results70, go_sem, fltV, z1, z2]) rfl ⟨HX6.out.drew, .inr ⟨by rw [HWF.out], b, nb, by rw [HNB.out], hbl, HROW6.out.below (Below.refl _ _).drew hbl⟩⟩
end Go.Proofs.Ytjpppdacamhhfaa
