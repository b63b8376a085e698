/- gessoref6's Read. Conditions: bytes. -/
import Derived.Test.YtjpppdacamhhfaaImM
import Derived.Test.YtjpppdacamhhfaaImRd
namespace Go.Proofs.Ytjpppdacamhhfaa
open Go.RowKit
set_option linter.unusedVariables false

theorem rt_no {b : List Int} {w w' : World} {c : Int} {a : Nat} (hF : imgF b = ((c, a), [], [])) (hb : Below w.heap.size w w') : ReadTold b w (.returned (.tuple #[.agg #[.slice none 0 0], .slice none 0 0, fltV c a])) w' := by
  unfold ReadTold
  rw [hF]
  exact ⟨_, _, rfl, Own.nil _ _, Own.nil _ _, hb⟩
theorem rt_ok {b ws rs : List Int} {w w' : World} {u0 u1 : Value} (hF : imgF b = ((0, 0), ws, rs)) (hb : Below w.heap.size w w') (h0 : Own w' w.heap.size u0 ws) (h1 : Own w' w.heap.size u1 rs) : ReadTold b w (.returned (.tuple #[.agg #[u0], u1, fltV 0 0])) w' := by
  unfold ReadTold
  rw [hF]
  exact ⟨_, _, rfl, h0, h1, hb⟩
theorem rlist_no' {n : Int} {a len : Nat} {w w' : World} {e : Ending} (h : RListEnd (.no n a) len w e w') : e = .returned (.tuple #[.slice none 0 0, .int .i64 0, fltV n a]) ∧ Below w.heap.size w w' := by
  obtain ⟨hx, ⟨l, a', v, e1, _⟩ | ⟨n', a', e1, e2⟩⟩ := h
  · cases e1
  · cases e1; exact ⟨e2, hx⟩
theorem rlist_ok' {l : List Int} {a len : Nat} {w w' : World} {e : Ending} (h : RListEnd (.ok l a) len w e w') : ∃ A' c', e = .returned (.tuple #[.slice A' l.length c', .int .i64 (a : Int), fltV 0 0]) ∧ Own w' w.heap.size (.slice A' l.length c') l ∧ l.length ≤ c' ∧ a ≤ len ∧ Below w.heap.size w w' := by
  obtain ⟨hx, ⟨l', a', v, e1, e2, e3, e4⟩ | ⟨n', a', e1, _⟩⟩ := h
  · cases e1
    obtain ⟨A', c', rfl, -, hc, -⟩ := e4.form2
    exact ⟨A', c', e3, e4, hc, e2, hx⟩
  · cases e1

set_option maxRecDepth 100000 in
set_option maxHeartbeats 8000000 in
theorem rread_any (b : List Int) (A : Option Addr) (c : Nat) (w : World) (hA : IntsU w A b) (hbl : b.length ≤ 9223372036854775807) (hb : ∀ j, 0 ≤ nth b j ∧ nth b j ≤ 255) :
    Calls Try.prog 73 #[.slice A b.length c] w (ReadTold b w) := by
  have hx1 : Below w.heap.size w ((w.alloc (.cells #[.slice none 0 0] 33)).alloc (.cells #[.int .i64 0, .int .i64 0] 36)) := ((Below.refl _ _).alloc (Nat.le_refl _) _).alloc (by simp) _
  have hr0 : Blk ((w.alloc (.cells #[.slice none 0 0] 33)).alloc (.cells #[.int .i64 0, .int .i64 0] 36)) w.heap.size 33 #[.slice none 0 0] := (Blk.new _ _ _).alloc _
  have hr2 : Blk ((w.alloc (.cells #[.slice none 0 0] 33)).alloc (.cells #[.int .i64 0, .int .i64 0] 36)) (w.heap.size + 1) 36 #[.int .i64 0, .int .i64 0] := by
    have := Blk.new (w.alloc (.cells #[.slice none 0 0] 33)) 36 #[.int .i64 0, .int .i64 0]
    rwa [World.size_alloc] at this
  have HX1 := Lib.hid hx1; have H0 := Lib.hid hr0; have H2 := Lib.hid hr2
  have HA := Lib.hid (hA.below hx1); have HB := Lib.hid hb
  clear hx1 hr0 hr2 hA hb
  by_cases hl0 : b.length = 0
  · have hF : imgF b = ((8, 0), [], []) := by unfold imgF; rw [if_neg (by omega), if_pos (by omega), hl0]
    have HF := Lib.hid hF
    have hli : (b.length : Int) = 0 := by omega
    clear hF
    go_enter Try.func73, Try.ntmps73
    go_wp2_with fail
    refine bodyPost_ret (v := .tuple #[.agg #[.slice none 0 0], .slice none 0 0, fltV 8 0]) (by simp [results, Try.results73, go_sem, fltV]) rfl (rt_no HF.out (((Below.refl _ _).alloc (Nat.le_refl _) _).alloc (by simp) _))
  obtain ⟨bb, oo, rfl, hbb, hrow⟩ := HA.out (by omega)
  have e0 := hrow 0 (by omega)
  rw [Nat.add_zero] at e0
  have hp0 : (0 : Int) < (b.length : Int) := by omega
  by_cases h71 : nth b 0 = 71
  case neg =>
    have hF : imgF b = ((2, 0), [], []) := by unfold imgF; rw [if_pos (.inl ⟨by omega, h71⟩)]
    have HF := Lib.hid hF
    have hb71 : (nth b 0 != 71) = true := by simpa using h71
    clear hF h71 hrow
    generalize nth b 0 = x at *
    go_enter Try.func73, Try.ntmps73
    go_wp2_with fail
    refine bodyPost_ret (v := .tuple #[.agg #[.slice none 0 0], .slice none 0 0, fltV 2 0]) (by simp [results, Try.results73, go_sem, fltV]) rfl (rt_no HF.out (((Below.refl _ _).alloc (Nat.le_refl _) _).alloc (by simp) _))
  by_cases hl1 : b.length = 1
  · have hF : imgF b = ((8, 1), [], []) := by unfold imgF; rw [if_neg (by rintro (⟨-, h⟩ | ⟨h, -⟩); exact h h71; omega), if_pos (by omega), hl1]
    have HF := Lib.hid hF
    have hli : (b.length : Int) = 1 := by omega
    rw [h71] at e0
    clear hF h71 hrow hp0
    go_enter Try.func73, Try.ntmps73
    go_wp2_with fail
    refine bodyPost_ret (v := .tuple #[.agg #[.slice none 0 0], .slice none 0 0, fltV 8 1]) (by simp [results, Try.results73, go_sem, fltV]) rfl (rt_no HF.out (((Below.refl _ _).alloc (Nat.le_refl _) _).alloc (by simp) _))
  have e1 := hrow 1 (by omega)
  have hp1 : (1 : Int) < (b.length : Int) := by omega
  have H71 := Lib.hid h71
  rw [h71] at e0
  clear h71
  by_cases h69 : nth b 1 = 69
  case neg =>
    have hF : imgF b = ((2, 0), [], []) := by unfold imgF; rw [if_pos (.inr ⟨by omega, h69⟩)]
    have HF := Lib.hid hF
    have hb69 : (nth b 1 != 69) = true := by simpa using h69
    clear hF h69 hrow
    generalize nth b 1 = x at *
    go_enter Try.func73, Try.ntmps73
    go_wp2_with fail
    refine bodyPost_ret (v := .tuple #[.agg #[.slice none 0 0], .slice none 0 0, fltV 2 0]) (by simp [results, Try.results73, go_sem, fltV]) rfl (rt_no HF.out (((Below.refl _ _).alloc (Nat.le_refl _) _).alloc (by simp) _))
  have H69 := Lib.hid h69
  rw [h69] at e1
  have HC1 : Hid (¬ ((0 < b.length ∧ nth b 0 ≠ 71) ∨ (1 < b.length ∧ nth b 1 ≠ 69))) := by
    rintro (⟨-, h⟩ | ⟨-, h⟩)
    · exact h H71.out
    · exact h H69.out
  have hl2 : ¬ b.length < 2 := by omega
  have hp2 : ¬ (b.length : Int) < 2 := by omega
  clear h69 hrow
  go_enter Try.func73, Try.ntmps73
  go_wp2_with fail
  clear e0 e1 hp0 hp1 hp2
  generalize ((w.alloc (.cells #[.slice none 0 0] 33)).alloc (.cells #[.int .i64 0, .int .i64 0] 36)) = w1 at *
  generalize hN : w.heap.size = N at *
  have HN := Lib.hid hN
  clear hN
  have hN1 : N + 1 < w1.heap.size := H2.out.lt
  have hcall : Calls Try.prog 127 #[.slice (some ⟨bb, oo, none⟩) b.length c, .int .i64 2, .int .i64 2, .int .i64 2000] w1 (RListEnd (rdList b 2 2 2000) b.length w1) := rrlist_any c _ b 2 2 2000 w1 (by omega) hbl HA.out HB.out (by omega) (by omega)
  cases hr1 : rdList b 2 2 2000 with
  | no n a =>
    rw [hr1] at hcall
    have hn1 : (n != 0) = true := by simpa using (rdList_no hr1 : ¬ n = 0)
    have hF : imgF b = ((n, a), [], []) := by unfold imgF; rw [if_neg HC1.out, if_neg hl2, hr1]
    have HF := Lib.hid hF; have HCALL := Lib.hid hcall
    clear hF hcall hr1
    with_reducible refine HCALL.out.mono ?_
    intro e w2 h2
    obtain ⟨rfl, hb2⟩ := rlist_no' h2
    have hF2 := H2.out.below hb2 H2.out.lt
    have HX2 := Lib.hid (HX1.out.trans (hb2.mono (by omega)))
    have H03 := Lib.hid ((H0.out.below hb2 H0.out.lt).alloc (.cells #[.int .i64 n, .int .i64 a] 36)); have H23 := Lib.hid (hF2.alloc (.cells #[.int .i64 n, .int .i64 a] 36))
    have HG3 := Lib.hid (Blk.new w2 36 #[.int .i64 n, .int .i64 a])
    have hlt2 : N + 1 < w2.heap.size := hF2.lt
    have HX3 := Lib.hid (HX2.out.alloc (by omega) (.cells #[.int .i64 n, .int .i64 a] 36))
    clear h2 hb2 hF2 HX2 HCALL
    unfold fltV
    go_wp2_with fail
    generalize (w2.alloc (.cells #[.int .i64 n, .int .i64 a] 36)) = w3 at *
    obtain ⟨v1, v2, v3⟩ := H03.out.f1
    obtain ⟨z1, z2, z3, z4, z5⟩ := H23.out.f2
    obtain ⟨y1, y2, y3, y4, y5⟩ := HG3.out.f2
    go_region
    all_goals (try go_wp2)
    all_goals
      refine bodyPost_ret (v := .tuple #[.agg #[.slice none 0 0], .slice none 0 0, fltV n a]) (by simp [results, Try.results73, go_sem, fltV, z1, z2, v1]) rfl (rt_no HF.out ?_)
      rw [HN.out]
      repeat (first | exact HX3.out | refine Below.drew ?_ | refine Below.setCell ?_ (by dsimp only; omega) _)
  | ok ws a =>
    rw [hr1] at hcall
    have HCALL := Lib.hid hcall; have HR1 := Lib.hid hr1
    clear hcall hr1
    with_reducible refine HCALL.out.mono ?_
    intro e w2 h2
    obtain ⟨A1, c1, rfl, ho2, hc1, ha2, hb2⟩ := rlist_ok' h2
    have hF2 := H2.out.below hb2 H2.out.lt
    have HX2 := Lib.hid (HX1.out.trans (hb2.mono (by omega)))
    have H03 := Lib.hid ((H0.out.below hb2 H0.out.lt).alloc (.cells #[.int .i64 0, .int .i64 0] 36)); have H23 := Lib.hid (hF2.alloc (.cells #[.int .i64 0, .int .i64 0] 36))
    have HG3 := Lib.hid (Blk.new w2 36 #[.int .i64 0, .int .i64 0])
    have hlt2 : N + 1 < w2.heap.size := hF2.lt
    have HX3 := Lib.hid (HX2.out.alloc (by omega) (.cells #[.int .i64 0, .int .i64 0] 36))
    have HO3 := Lib.hid ((ho2.mono (show N + 1 + 1 ≤ w1.heap.size by omega)).alloc (.cells #[.int .i64 0, .int .i64 0] 36))
    have HA3 := Lib.hid ((HA.out.below hb2).alloc (.cells #[.int .i64 0, .int .i64 0] 36))
    have hlt3 : w2.heap.size < (w2.alloc (.cells #[.int .i64 0, .int .i64 0] 36)).heap.size := by rw [World.size_alloc]; omega
    clear h2 hb2 hF2 HX2 HCALL ho2
    unfold fltV
    go_wp2_with fail
    generalize (w2.alloc (.cells #[.int .i64 0, .int .i64 0] 36)) = w3 at *
    generalize w2.heap.size = F at *
    have hcall : Calls Try.prog 127 #[.slice (some ⟨bb, oo, none⟩) b.length c, .int .i64 (a : Int), .int .i64 0, .int .i64 600] w3 (RListEnd (rdList b a 0 600) b.length w3) := rrlist_any c _ b a 0 600 w3 ha2 hbl HA3.out HB.out (by omega) (by omega)
    cases hr2 : rdList b a 0 600 with
    | no n a' =>
      rw [hr2] at hcall
      have hn1 : (n != 0) = true := by simpa using (rdList_no hr2 : ¬ n = 0)
      have hF : imgF b = ((n, a'), [], []) := by unfold imgF; rw [if_neg HC1.out, if_neg hl2, HR1.out]; simp only; rw [hr2]
      have HF := Lib.hid hF; have HCALL := Lib.hid hcall
      clear hF hcall hr2
      with_reducible refine HCALL.out.mono ?_
      intro e w4 h4
      obtain ⟨rfl, hb4⟩ := rlist_no' h4
      have hg4 := HG3.out.below hb4 HG3.out.lt
      have hg5 : Blk ((w4.setCell ⟨F, 0, none⟩ (.int .i64 n)).setCell ⟨F, 1, none⟩ (.int .i64 a')) F 36 #[.int .i64 n, .int .i64 a'] := by
        have := (hg4.set_ 0 (.int .i64 n)).set_ 1 (.int .i64 a')
        simpa using this
      have HG5 := Lib.hid hg5
      have H05 := Lib.hid (((H03.out.below hb4 H03.out.lt).far (p := ⟨F, 0, none⟩) (by dsimp only; omega) (.int .i64 n)).far (p := ⟨F, 1, none⟩) (by dsimp only; omega) (.int .i64 a'))
      have H25 := Lib.hid (((H23.out.below hb4 H23.out.lt).far (p := ⟨F, 0, none⟩) (by dsimp only; omega) (.int .i64 n)).far (p := ⟨F, 1, none⟩) (by dsimp only; omega) (.int .i64 a'))
      have HX5 := Lib.hid (((HX3.out.trans (hb4.mono (by omega))).setCell (p := ⟨F, 0, none⟩) (by dsimp only; omega) (.int .i64 n)).setCell (p := ⟨F, 1, none⟩) (by dsimp only; omega) (.int .i64 a'))
      obtain ⟨y1, y2, y3, y4, y5⟩ := hg4.f2
      clear h4 hb4 hg4 hg5 HCALL
      unfold fltV
      go_wp2_with fail
      clear y1 y2 y3 y4 y5
      generalize ((w4.setCell ⟨F, 0, none⟩ (.int .i64 n)).setCell ⟨F, 1, none⟩ (.int .i64 a')) = w5 at *
      obtain ⟨v1, v2, v3⟩ := H05.out.f1
      obtain ⟨z1, z2, z3, z4, z5⟩ := H25.out.f2
      obtain ⟨y1, y2, y3, y4, y5⟩ := HG5.out.f2
      go_region
      all_goals (try go_wp2)
      all_goals
        refine bodyPost_ret (v := .tuple #[.agg #[.slice none 0 0], .slice none 0 0, fltV n a']) (by simp [results, Try.results73, go_sem, fltV, z1, z2, v1]) rfl (rt_no HF.out ?_)
        rw [HN.out]
        repeat (first | exact HX5.out | refine Below.drew ?_ | refine Below.setCell ?_ (by dsimp only; omega) _)
    | ok rs a' =>
      rw [hr2] at hcall
      have HCALL := Lib.hid hcall; have HR2 := Lib.hid hr2
      clear hcall hr2
      with_reducible refine HCALL.out.mono ?_
      intro e w4 h4
      obtain ⟨B1, d1, rfl, ho4, hd1, ha4, hb4⟩ := rlist_ok' h4
      have hg4 := HG3.out.below hb4 HG3.out.lt
      have H04 := Lib.hid (H03.out.below hb4 H03.out.lt); have H24 := Lib.hid (H23.out.below hb4 H23.out.lt); have HG4 := Lib.hid hg4
      have HX4 := Lib.hid (HX3.out.trans (hb4.mono (by omega)))
      have HOA := Lib.hid (HO3.out.below hb4 (fun k hk => (HO3.out.lt k hk).2)); have HOB := Lib.hid (ho4.mono (show N + 1 + 1 ≤ w3.heap.size by omega))
      have s0 : w4.setCell ⟨F, 0, none⟩ (.int .i64 0) = w4 := setCell_same hg4 rfl
      have s1 : w4.setCell ⟨F, 1, none⟩ (.int .i64 0) = w4 := setCell_same hg4 rfl
      obtain ⟨y1, y2, y3, y4, y5⟩ := hg4.f2
      obtain ⟨v1, v2, v3⟩ := H04.out.f1
      obtain ⟨z1, z2, z3, z4, z5⟩ := H24.out.f2
      have hFr : imgF b = if a' < b.length then ((9, a'), [], []) else if (rootsF ws rs).1 = 0 then ((0, 0), ws, rs) else (rootsF ws rs, [], []) := by
        unfold imgF; rw [if_neg HC1.out, if_neg hl2, HR1.out]; simp only; rw [HR2.out]
      have HFR := Lib.hid hFr
      clear h4 hb4 hg4 ho4 HCALL hFr
      unfold fltV
      by_cases hrest : a' < b.length
      · rw [if_pos hrest] at HFR
        have HF := HFR
        have hrl : (a' : Int) < (b.length : Int) := by omega
        go_wp2_with fail
        refine bodyPost_ret (v := .tuple #[.agg #[.slice none 0 0], .slice none 0 0, fltV 9 a']) (by simp [results, Try.results73, go_sem, fltV, z1, z2, v1]) rfl (rt_no HF.out ?_)
        rw [HN.out]
        repeat (first | exact HX4.out | refine Below.drew ?_ | refine Below.setCell ?_ (by dsimp only; omega) _)
      · rw [if_neg hrest] at HFR
        have hrl : ¬ (a' : Int) < (b.length : Int) := by omega
        have hroots := rroots_any ws rs A1 B1 c1 d1 w4 (own_ints9 HOA.out).1 (rdList_i64 HB.out HR1.out) (by have := (rdList_ok HB.out HR1.out).2.1; omega) (own_ints9 HOB.out).1 (rdList_i64 HB.out HR2.out) (by have := (rdList_ok HB.out HR2.out).2.1; omega)
        have HROOTS := Lib.hid hroots
        clear hroots
        go_wp2_with fail
        clear s0 s1 y1 y2 y3 y4 y5 v1 v2 v3 z1 z2 z3 z4 z5
        with_reducible refine HROOTS.out.mono ?_
        rintro e w6 ⟨rfl, hb6⟩
        have hg6 := HG4.out.below hb6 HG4.out.lt
        have H06 := Lib.hid (H04.out.below hb6 H04.out.lt); have H26 := Lib.hid (H24.out.below hb6 H24.out.lt)
        have hlt4 : N + 1 < w4.heap.size := H24.out.lt
        have HX6 := Lib.hid (HX4.out.trans (hb6.mono (by omega)))
        have HOA6 := Lib.hid (HOA.out.below hb6 (fun k hk => (HOA.out.lt k hk).2)); have HOB6 := Lib.hid (HOB.out.below hb6 (fun k hk => (HOB.out.lt k hk).2))
        obtain ⟨y1, y2, y3, y4, y5⟩ := hg6.f2
        cases hc : ((rootsF ws rs).1 == 0)
        · have h0 : ¬ (rootsF ws rs).1 = 0 := by simpa using hc
          have hc2 : ((rootsF ws rs).1 != 0) = true := by simpa using h0
          rw [if_neg h0] at HFR
          have hg7 : Blk ((w6.setCell ⟨F, 0, none⟩ (.int .i64 (rootsF ws rs).1)).setCell ⟨F, 1, none⟩ (.int .i64 (rootsF ws rs).2)) F 36 #[.int .i64 (rootsF ws rs).1, .int .i64 (rootsF ws rs).2] := by
            have := (hg6.set_ 0 (.int .i64 (rootsF ws rs).1)).set_ 1 (.int .i64 (rootsF ws rs).2)
            simpa using this
          have HG7 := Lib.hid hg7
          have H07 := Lib.hid ((H06.out.far (p := ⟨F, 0, none⟩) (by dsimp only; omega) (.int .i64 (rootsF ws rs).1)).far (p := ⟨F, 1, none⟩) (by dsimp only; omega) (.int .i64 (rootsF ws rs).2))
          have H27 := Lib.hid ((H26.out.far (p := ⟨F, 0, none⟩) (by dsimp only; omega) (.int .i64 (rootsF ws rs).1)).far (p := ⟨F, 1, none⟩) (by dsimp only; omega) (.int .i64 (rootsF ws rs).2))
          have HX7 := Lib.hid ((HX6.out.setCell (p := ⟨F, 0, none⟩) (by dsimp only; omega) (.int .i64 (rootsF ws rs).1)).setCell (p := ⟨F, 1, none⟩) (by dsimp only; omega) (.int .i64 (rootsF ws rs).2))
          have HF : Hid (imgF b = (((rootsF ws rs).1, (rootsF ws rs).2), [], [])) := HFR.out
          clear h0 hg6 hg7 hb6 hc
          unfold fltV
          go_wp2_with fail
          clear y1 y2 y3 y4 y5
          generalize ((w6.setCell ⟨F, 0, none⟩ (.int .i64 (rootsF ws rs).1)).setCell ⟨F, 1, none⟩ (.int .i64 (rootsF ws rs).2)) = w7 at *
          obtain ⟨v1, v2, v3⟩ := H07.out.f1
          obtain ⟨z1, z2, z3, z4, z5⟩ := H27.out.f2
          obtain ⟨y1, y2, y3, y4, y5⟩ := HG7.out.f2
          go_region
          all_goals (try go_wp2)
          all_goals
            refine bodyPost_ret (v := .tuple #[.agg #[.slice none 0 0], .slice none 0 0, fltV (rootsF ws rs).1 (rootsF ws rs).2]) (by simp [results, Try.results73, go_sem, fltV, z1, z2, v1]) rfl (rt_no HF.out ?_)
            rw [HN.out]
            repeat (first | exact HX7.out | refine Below.drew ?_ | refine Below.setCell ?_ (by dsimp only; omega) _)
        · have h0 : (rootsF ws rs).1 = 0 := by simpa using hc
          obtain ⟨-, -, -, -, hz⟩ := rootsF_zero h0
          rw [if_pos h0] at HFR
          rw [hz]
          have s0 : w6.setCell ⟨F, 0, none⟩ (.int .i64 0) = w6 := setCell_same hg6 rfl
          have s1 : w6.setCell ⟨F, 1, none⟩ (.int .i64 0) = w6 := setCell_same hg6 rfl
          obtain ⟨v1, v2, v3⟩ := H06.out.f1
          obtain ⟨z1, z2, z3, z4, z5⟩ := H26.out.f2
          clear h0 hz hg6 hb6 hc
          unfold fltV
          dsimp only
          go_wp2_with fail
          refine bodyPost_ret (v := .tuple #[.agg #[.slice A1 ws.length c1], .slice B1 rs.length d1, fltV 0 0]) (by simp [results, Try.results73, go_sem, fltV, z1, z2, v1]) rfl (rt_ok HFR.out ?_ ?_ ?_)
          · rw [HN.out]
            repeat (first | exact HX6.out | refine Below.drew ?_ | refine Below.setCell ?_ (by dsimp only; omega) _)
          · rw [HN.out]
            have hoo := HOA6.out.mono (show N ≤ N + 1 + 1 by omega)
            repeat (first | exact hoo | refine Own.setCell ?_ _ (fun e => by have := (HOA6.out.lt _ e).1; dsimp only at this; omega) _)
          · rw [HN.out]
            have hoo := HOB6.out.mono (show N ≤ N + 1 + 1 by omega)
            repeat (first | exact hoo | refine Own.setCell ?_ _ (fun e => by have := (HOB6.out.lt _ e).1; dsimp only at this; omega) _)
end Go.Proofs.Ytjpppdacamhhfaa
