/- The document's New makes a thing more, or tells what stands against it. Conditions: numbers of 64 bits, a heap that may be. -/
import Derived.Test.YtjpppdacamhhfaaNew
import Derived.Test.YtjpppdacamhhfaaRef
namespace Go.Proofs.Ytjpppdacamhhfaa
open Go.RowKit
set_option linter.unusedVariables false

section
variable (ws : List Int) (b o c : Nat) (cl fm sz : Int) (w : World) (hr : Row w b o ws) (hlt : b < w.heap.size) (hw : I64 ws) (hok : OkH ws)
    (c1 : -9223372036854775808 ≤ cl) (c2 : cl ≤ 9223372036854775807) (f1 : -9223372036854775808 ≤ fm) (f2 : fm ≤ 9223372036854775807) (s1 : -9223372036854775808 ≤ sz) (s2 : sz ≤ 9223372036854775807)
include hr hlt hw hok c1 c2 f1 f2 s1 s2

set_option maxRecDepth 100000 in
set_option maxHeartbeats 1000000 in
theorem rnew_any : Calls Try.prog 47 #[.agg #[.slice (some ⟨b, o, none⟩) ws.length c], .int .i64 cl, .int .i64 fm, .int .i64 sz] w (HeapOut (newR ws cl fm sz) w) := by
  have HR := Lib.hid ((hr.below ((Below.refl _ _).alloc (Nat.le_refl _) (.cells #[.slice (some ⟨b, o, none⟩) ws.length c] 33)) hlt).below ((Below.refl _ _).alloc (Nat.le_refl _) (.cells #[.slice none 0 0] 33)) (by simp; omega)); clear hr
  have HW := Lib.hid hw; clear hw
  have HOK := Lib.hid hok; clear hok
  have hb0 : Blk ((w.alloc (.cells #[.slice (some ⟨b, o, none⟩) ws.length c] 33)).alloc (.cells #[.slice none 0 0] 33)) w.heap.size 33 #[.slice (some ⟨b, o, none⟩) ws.length c] := (Blk.new _ _ _).alloc _
  have hr0 : Blk ((w.alloc (.cells #[.slice (some ⟨b, o, none⟩) ws.length c] 33)).alloc (.cells #[.slice none 0 0] 33)) (w.heap.size + 1) 33 #[.slice none 0 0] := by
    have := Blk.new (w.alloc (.cells #[.slice (some ⟨b, o, none⟩) ws.length c] 33)) 33 #[.slice none 0 0]
    simpa using this
  have HB0 := Lib.hid hb0; have HR0 := Lib.hid hr0; clear hb0 hr0
  have HL0 : Hid (Below w.heap.size w ((w.alloc (.cells #[.slice (some ⟨b, o, none⟩) ws.length c] 33)).alloc (.cells #[.slice none 0 0] 33))) := ((Below.refl _ _).alloc (Nat.le_refl _) _).alloc (by simp) _
  obtain ⟨q1, q2⟩ : 2 ≤ ws.length ∧ ws.length ≤ 2000 := ⟨HOK.out.two, HOK.out.most⟩
  obtain ⟨q3, q4⟩ : 1 ≤ nth ws 1 ∧ nth ws 1 ≤ 10001 := ⟨HOK.out.w1, HOK.out.w1m⟩
  go_enter Try.func47, Try.ntmps47
  go_wp2_with fail
  have hlt1 : b < ((w.alloc (.cells #[.slice (some ⟨b, o, none⟩) ws.length c] 33)).alloc (.cells #[.slice none 0 0] 33)).heap.size := by simp; omega
  generalize ((w.alloc (.cells #[.slice (some ⟨b, o, none⟩) ws.length c] 33)).alloc (.cells #[.slice none 0 0] 33)) = w1 at *
  obtain ⟨x1, x2, x3⟩ := HB0.out.f1
  obtain ⟨y1, y2, y3⟩ := HR0.out.f1
  have hw1 := HR.out 1 (by omega)
  by_cases hcl : cl ≠ 0 ∧ isTh ws cl = false
  · have HE : Hid (newR ws cl fm sz = ([], 0, 3)) := by show _ = _; unfold newR newE; rw [if_pos hcl]; rfl
    obtain ⟨t1, t2⟩ := hcl
    have t1' : (cl != 0) = true := by simpa using t1
    clear t1
    go_wp2_with (go_at_call 85; refine (rthing_any ws b o c _ HR.out HW.out (by omega) HOK.out.bad _ (by omega) (by omega)).mono ?_; rintro e w' ⟨rfl, rfl⟩)
    rw [HE.out]
    exact bodyPost_ret (v := .tuple #[.agg #[.slice none 0 0], .int .i64 0, .int .i64 3]) (by simp [results, Try.results47, go_sem, y1]) rfl (heapOut_err _ _ (HL0.out.setCell (by simp) _))
  by_cases hrg : fm < 0 ∨ 2 < fm ∨ sz < 0 ∨ 60 < sz
  · have HE : Hid (newR ws cl fm sz = ([], 0, 4)) := by show _ = _; unfold newR newE; rw [if_neg hcl, if_pos hrg]; rfl
    have hx : (cl != 0) = false ∨ ((cl != 0) = true ∧ isTh ws cl = true) := by
      cases h : (cl != 0)
      · exact .inl rfl
      · refine .inr ⟨rfl, ?_⟩
        cases h' : isTh ws cl
        · exact absurd ⟨by simpa using h, h'⟩ hcl
        · rfl
    have hr : fm < 0 ∨ (0 ≤ fm ∧ 2 < fm) ∨ (0 ≤ fm ∧ fm ≤ 2 ∧ sz < 0) ∨ (0 ≤ fm ∧ fm ≤ 2 ∧ 0 ≤ sz ∧ 60 < sz) := by omega
    clear hcl hrg
    rcases hx with t1 | ⟨t1, t2⟩ <;> rcases hr with r1 | ⟨r1, r2⟩ | ⟨r1, r2, r3⟩ | ⟨r1, r2, r3, r4⟩
    all_goals
      go_wp2_with (go_at_call 85; refine (rthing_any ws b o c _ HR.out HW.out (by omega) HOK.out.bad _ (by omega) (by omega)).mono ?_; rintro e w' ⟨rfl, rfl⟩)
      rw [HE.out]
      exact bodyPost_ret (v := .tuple #[.agg #[.slice none 0 0], .int .i64 0, .int .i64 4]) (by simp [results, Try.results47, go_sem, y1]) rfl (heapOut_err _ _ (HL0.out.setCell (by simp) _))
  have hx : (cl != 0) = false ∨ ((cl != 0) = true ∧ isTh ws cl = true) := by
    cases h : (cl != 0)
    · exact .inl rfl
    · refine .inr ⟨rfl, ?_⟩
      cases h' : isTh ws cl
      · exact absurd ⟨by simpa using h, h'⟩ hcl
      · rfl
  obtain ⟨r1, r2, r3, r4⟩ : 0 ≤ fm ∧ fm ≤ 2 ∧ 0 ≤ sz ∧ sz ≤ 60 := by omega
  by_cases hfull : 2000 < ws.length + 3 + sz ∨ 10000 < nth ws 1
  · have HE : Hid (newR ws cl fm sz = ([], 0, 6)) := by show _ = _; unfold newR newE; rw [if_neg hcl, if_neg hrg, if_pos hfull]; rfl
    have hf : 2000 < ws.length + 3 + sz ∨ (ws.length + 3 + sz ≤ 2000 ∧ (nth ws 1 == 10001) = true) := by
      rcases Int.lt_or_le 2000 (ws.length + 3 + sz) with h | h
      · exact .inl h
      · exact .inr ⟨h, by simp; omega⟩
    clear hcl hrg hfull
    rcases hx with t1 | ⟨t1, t2⟩ <;> rcases hf with f1 | ⟨f1, f2⟩
    all_goals
      go_wp2_with (go_at_call 85; refine (rthing_any ws b o c _ HR.out HW.out (by omega) HOK.out.bad _ (by omega) (by omega)).mono ?_; rintro e w' ⟨rfl, rfl⟩)
      rw [HE.out]
      exact bodyPost_ret (v := .tuple #[.agg #[.slice none 0 0], .int .i64 0, .int .i64 6]) (by simp [results, Try.results47, go_sem, y1]) rfl (heapOut_err _ _ (HL0.out.setCell (by simp) _))
  · have HE : Hid (newR ws cl fm sz = (newW ws cl fm sz, 2 * (ws.length : Int), 0)) := by
      show _ = _
      unfold newR
      have : newE ws cl fm sz = 0 := by unfold newE; rw [if_neg hcl, if_neg hrg, if_neg hfull]
      rw [if_pos this]
    obtain ⟨f1, f2⟩ : ws.length + 3 + sz ≤ 2000 ∧ nth ws 1 ≤ 10000 := by omega
    have f3 : (nth ws 1 == 10001) = false := by simp; omega
    clear hcl hrg hfull
    obtain ⟨k, rfl⟩ : ∃ k : Nat, sz = k := ⟨sz.toNat, by omega⟩
    have HA1 : Hid (Ints (w1.alloc (.cells #[] 3)) (some ⟨b, o, none⟩) ws) := Ints.alloc (fun _ => ⟨b, o, rfl, hlt1, HR.out⟩) _
    rcases hx with t1 | ⟨t1, t2⟩
    all_goals
      go_wp2_with (first
        | (go_at_call 85; refine (rthing_any ws b o c _ HR.out HW.out (by omega) HOK.out.bad _ (by omega) (by omega)).mono ?_; rintro e w' ⟨rfl, rfl⟩)
        | (at_builtin; refine wpList_join rfl (.tmp 55) (.tmp 57) rfl w1.heap.size (.slice (some ⟨w1.heap.size, 0, none⟩) 0 0) [] rfl (Own.lit0 w1 _ (Nat.le_refl _)) (some ⟨b, o, none⟩) c ws rfl HA1.out (by simp; omega) (by simp) ?_; intro A2 c2 w2 hown2 hgr2 hat2; simp only [List.length_nil, Nat.zero_add, List.nil_append] at hown2 hat2 ⊢; have hb2 := Lib.hid (((Below.refl w1.heap.size w1).alloc (Nat.le_refl _) (.cells #[] 3)).grown hgr2 (by simp) (fun k hk => by simp [Value.ownBlock] at hk; omega)); obtain ⟨g2, rfl, hg2, hg2', _, hc2⟩ := hown2.some_ (by omega); have hc1 := hown2.cell 1 (by omega); have HO2 := Lib.hid hown2; clear hown2 hat2 hgr2)
        | (at_builtin; refine wpList_join rfl (.tmp 59) (.tmp 68) rfl w1.heap.size (.slice (some ⟨g2, 0, none⟩) ws.length c2) ws rfl (HO2.out.alloc _) (some ⟨w2.heap.size, 0, none⟩) 3 [cl, nth ws 1, 4 * (k : Int) + fm] rfl (ints_new w2 _) (by simp; omega) (by simp; omega) ?_; intro A3 c3 w3 hown3 hgr3 hat3; have hb3 := Lib.hid ((hb2.out.alloc hb2.out.size (.cells #[.int .i64 cl, .int .i64 (nth ws 1), .int .i64 (4 * (k : Int) + fm)] 3)).grown hgr3 (by simp; omega) (fun k hk => by simp [Value.ownBlock] at hk; omega)); obtain ⟨g3, rfl, hg3, hg3', _, hc3⟩ := hown3.some_ (by simp); have hc4 := hown3.cell 1 (by simp); rw [nth_left (by omega)] at hc4; have hf4 := hown3.frz 1; have HO3 := Lib.hid (hown3.put 1 (nth ws 1 + 1)); clear hown3 hat3 hgr3))
      have hb30 := Lib.hid (hb3.out.setCell (p := ⟨g3, 1, none⟩) hg3 (.int .i64 (nth ws 1 + 1)))
      clear hc1 hc4 hf4
      go_loopw [12, 13] (fun v i wr => ∃ j : Nat, j ≤ k ∧ i = .int .i64 j ∧ Own wr w1.heap.size v ((ws ++ [cl, nth ws 1, 4 * (k : Int) + fm]).set 1 (nth ws 1 + 1) ++ List.replicate j 0) ∧ Below w1.heap.size w1 wr) (fun _ i _ => k - (intOf i).toNat)
      case atStart => exact ⟨0, Nat.zero_le _, rfl, by simpa using HO3.out, hb30.out⟩
      case round =>
        obtain ⟨j, hj, rfl, hown, hbr⟩ := hrel
        have HO := Lib.hid hown; have HBR := Lib.hid hbr; clear hown hbr
        have hsz := HBR.out.size
        by_cases hlt : j < k
        · go_wp2_with (at_builtin; refine wpList_push rfl _ _ rfl w1.heap.size _ _ rfl (HO.out.alloc _) wr.heap.size 1 0 rfl (cell_new wr _ _ _ 0) (by simp; omega) (by simp; omega) ?_; intro g5 cap5 w5 hown5 _ hgr5)
          go_roundw
          case rel =>
            refine ⟨j + 1, by omega, by go_num, ?_, (HBR.out.alloc HBR.out.size _).grown hgr5 (by simp; omega) (fun j hj => (HO.out.lt j hj).1)⟩
            rw [List.append_assoc, ← List.replicate_succ'] at hown5
            simpa using hown5
          case measure => simp [intOf]; omega
        · obtain rfl : j = k := by omega
          obtain ⟨x1, x2, x3⟩ := (HB0.out.below HBR.out HB0.out.lt).f1
          obtain ⟨y1, y2, y3⟩ := (HR0.out.below HBR.out HR0.out.lt).f1
          rw [newW_alt q1] at HO
          have hO := HO.out
          obtain ⟨A6, c6, rfl, _⟩ := hO.form2
          go_wp2
          go_region
          all_goals (try go_wp2)
          rw [HE.out]
          refine bodyPost_ret (v := .tuple #[.agg #[.slice A6 (newW ws cl fm j).length c6], .int .i64 (2 * (ws.length : Int)), .int .i64 0]) (by simp [results, Try.results47, go_sem, y1]) rfl ⟨((HL0.out.trans (HBR.out.mono HL0.out.size)).setCell (by simp) _).drew, A6, c6, rfl, ?_⟩
          exact (hO.mono HL0.out.size).setCell _ (fun e => by have := (hO.lt _ e).1; simp at this; omega) _
end
end Go.Proofs.Ytjpppdacamhhfaa
