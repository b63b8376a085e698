/- The document's other and Become compute the plain functions. Conditions: numbers of 64 bits, a heap that may be. -/
import Derived.Test.YtjpppdacamhhfaaExch
namespace Go.Proofs.Ytjpppdacamhhfaa
open Go.RowKit
set_option linter.unusedVariables false

theorem stepX_nth {h : Int → Int} {ws xs : List Int} {p j : Nat} (hj : j ≠ p) (hs : ∀ k, k < slotsN ws p → j ≠ p + 3 + k) : nth (stepX h ws xs p) j = nth xs j := by
  rcases Nat.lt_or_ge j xs.length with hl | hl
  · have e1 : nth (mapSeg h xs p 1) j = nth xs j := by rw [mapSeg_nth hl, if_neg (by omega)]
    unfold stepX
    split
    · exact e1
    · rw [mapSeg_nth (by rw [mapSeg_len]; exact hl), if_neg, e1]
      rintro ⟨h1, h2⟩
      exact hs (j - (p + 3)) (by omega) (by omega)
  · rw [nth_out hl, nth_out (by rw [stepX_len]; exact hl)]
theorem exchF_head (h : Int → Int) (ws : List Int) {q i : Nat} (hq : q ∈ places ws) (hi1 : 0 < i) (hi : i < 3) : ∀ (pre : List Nat) (xs : List Int), (∀ r ∈ pre, r ∈ places ws) → nth (pre.foldl (stepX h ws) xs) (q + i) = nth xs (q + i)
  | [], _, _ => rfl
  | r :: pre, xs, hp => by
    have hr := hp r (List.mem_cons_self)
    rw [List.foldl_cons, exchF_head h ws hq hi1 hi pre _ (fun s hs => hp s (List.mem_cons_of_mem _ hs))]
    refine stepX_nth ?_ (fun k hk e => slot_ne hr hq hk hi e.symm)
    intro e
    have hg := nxt_gt ws r
    have hg' := nxt_gt ws q
    rcases places_part hr hq with e' | e' | e' <;> omega

section
variable (fr ot : List Int) (C D : Option Addr) (c' d' : Nat) (both : Bool) (o : Int) (w : World) (hC : Ints w C fr) (hD : Ints w D ot) (hfl : fr.length ≤ 1000000) (hge : fr.length ≤ ot.length)
include hC hD hfl hge
set_option maxRecDepth 100000 in
set_option maxHeartbeats 1000000 in
theorem other_any : Calls Try.prog 120 #[.int .i64 o, .slice C fr.length c', .slice D ot.length d', .bool both] w fun e w' => e = .returned (.int .i64 (other fr ot both o)) ∧ w = w' := by
  have HC := Lib.hid hC; have HD := Lib.hid hD; clear hC hD
  have HO := Lib.hid (other_eq fr ot both o)
  go_enter Try.func120, Try.ntmps120
  go_wp2_with fail
  go_loop [9] (fun i => ∃ j : Nat, j ≤ fr.length ∧ i = .int .i64 j ∧ otFrom fr ot both o 0 = otFrom fr ot both o j) (fun i => fr.length - (intOf i).toNat)
  case atStart => exact ⟨0, Nat.zero_le _, rfl, rfl⟩
  case round =>
    obtain ⟨j, hj, rfl, hot⟩ := hrel
    have HOT := Lib.hid hot; clear hot
    by_cases hlt : j < fr.length
    · obtain ⟨b1, o1, rfl, _, r1⟩ := HC.out (by omega)
      obtain ⟨b2, o2, rfl, _, r2⟩ := HD.out (by omega)
      have e1 := r1 j hlt
      have e2 := r2 j (by omega)
      clear r1 r2
      have hst := @otFrom_step fr ot both o j hlt
      cases ha : (o == nth fr j)
      · have ha' : ¬ nth fr j = o := fun e => by rw [e] at ha; simp at ha
        rw [if_neg ha'] at hst
        cases both
        · have HS := Lib.hid (HOT.out.trans (hst.trans (if_neg (fun e => by cases e.1))))
          clear hst ha'
          go_wp2
          go_round
          case rel => exact ⟨j + 1, by omega, by go_num, HS.out⟩
          case measure => simp [intOf]; omega
        · cases hb : (o == nth ot j)
          · have hb' : ¬ nth ot j = o := fun e => by rw [e] at hb; simp at hb
            have HS := Lib.hid (HOT.out.trans (hst.trans (if_neg (fun e => hb' e.2))))
            clear hst ha' hb'
            go_wp2
            go_round
            case rel => exact ⟨j + 1, by omega, by go_num, HS.out⟩
            case measure => simp [intOf]; omega
          · have hb' : nth ot j = o := by have := (beq_iff_eq.1 hb); exact this.symm
            have HS := Lib.hid (HOT.out.trans (hst.trans (if_pos ⟨rfl, hb'⟩)))
            clear hst ha' hb'
            go_wp2
            go_ret
            exact ⟨ret_int (by rw [HO.out, HS.out]), rfl⟩
      · have ha' : nth fr j = o := (beq_iff_eq.1 ha).symm
        have HS := Lib.hid (HOT.out.trans (hst.trans (if_pos ha')))
        clear hst ha'
        go_wp2
        go_ret
        exact ⟨ret_int (by rw [HO.out, HS.out]), rfl⟩
    · obtain rfl : j = fr.length := by omega
      have HS := Lib.hid (HOT.out.trans otFrom_end)
      go_wp2
      go_ret
      exact ⟨ret_int (by rw [HO.out, HS.out]), rfl⟩
end

set_option maxRecDepth 100000 in
set_option maxHeartbeats 4000000 in
theorem rbecome_any (ws rs fr ot : List Int) (b o c : Nat) (B C D : Option Addr) (d c' d' : Nat) (both : Bool) (w : World) (hr : Row w b o ws) (hlt : b < w.heap.size) (hok : OkH ws) (hw : I64 ws)
    (hB : Ints w B rs) (hri : I64 rs) (hrl : rs.length ≤ 1000000) (hC : Ints w C fr) (hfr : I64 fr) (hfl : fr.length ≤ 1000000) (hD : Ints w D ot) (hot : I64 ot) (hge : fr.length ≤ ot.length)
    (hh : ∀ o, -9223372036854775808 ≤ o → o ≤ 9223372036854775807 → -9223372036854775808 ≤ other fr ot both o ∧ other fr ot both o ≤ 9223372036854775807) :
    Calls Try.prog 68 #[.agg #[.slice (some ⟨b, o, none⟩) ws.length c], .slice C fr.length c', .slice D ot.length d', .slice B rs.length d, .bool both] w (TwoOut (exchF (other fr ot both) ws (places ws)) (rs.map (other fr ot both)) w) := by
  have hx0 : Below w.heap.size w ((w.alloc (.cells #[.slice (some ⟨b, o, none⟩) ws.length c] 33)).alloc (.cells #[.slice none 0 0] 33)) := ((Below.refl _ _).alloc (Nat.le_refl _) _).alloc (by simp) _
  have hh0 : Blk ((w.alloc (.cells #[.slice (some ⟨b, o, none⟩) ws.length c] 33)).alloc (.cells #[.slice none 0 0] 33)) w.heap.size 33 #[.slice (some ⟨b, o, none⟩) ws.length c] := (Blk.new _ _ _).alloc _
  have hr0 : Blk ((w.alloc (.cells #[.slice (some ⟨b, o, none⟩) ws.length c] 33)).alloc (.cells #[.slice none 0 0] 33)) (w.heap.size + 1) 33 #[.slice none 0 0] := by
    have := Blk.new (w.alloc (.cells #[.slice (some ⟨b, o, none⟩) ws.length c] 33)) 33 #[.slice none 0 0]
    simpa using this
  obtain ⟨q1, q2⟩ : 2 ≤ ws.length ∧ ws.length ≤ 2000 := ⟨hok.two, hok.most⟩
  have HR := Lib.hid (hr.below hx0 hlt); have HX0 := Lib.hid hx0; have HH0 := Lib.hid hh0; have HR0 := Lib.hid hr0
  have HB := Lib.hid (hB.below hx0); have HC := Lib.hid (hC.below hx0); have HD := Lib.hid (hD.below hx0)
  have HW := Lib.hid hw; have HOK := Lib.hid hok; have HRI := Lib.hid hri; have HFR := Lib.hid hfr; have HOT := Lib.hid hot; have HHB := Lib.hid hh
  clear hr hx0 hh0 hr0 hB hC hD hw hok hri hfr hot hh
  have hsz : Hid (w.heap.size + 1 + 1 = ((w.alloc (.cells #[.slice (some ⟨b, o, none⟩) ws.length c] 33)).alloc (.cells #[.slice none 0 0] 33)).heap.size) := by show _ = _; simp
  have hbl : b < ((w.alloc (.cells #[.slice (some ⟨b, o, none⟩) ws.length c] 33)).alloc (.cells #[.slice none 0 0] 33)).heap.size := by simp; omega
  have hWA : Hid (Ints (((w.alloc (.cells #[.slice (some ⟨b, o, none⟩) ws.length c] 33)).alloc (.cells #[.slice none 0 0] 33)).alloc (.cells #[] 3)) (some ⟨b, o, none⟩) ws) := Ints.alloc (fun _ => ⟨b, o, rfl, hbl, HR.out⟩) _
  have hl9 : ([] : List Int).length + ws.length ≤ 1000000000 := by simp; omega
  have hOW : Hid (Own (((w.alloc (.cells #[.slice (some ⟨b, o, none⟩) ws.length c] 33)).alloc (.cells #[.slice none 0 0] 33)).alloc (.cells #[] 3)) (w.heap.size + 1 + 1) (.slice (some ⟨w.heap.size + 1 + 1, 0, none⟩) 0 0) []) := by
    show Own _ _ _ _
    rw [hsz.out]; exact Own.lit0 _ _ (Nat.le_refl _)
  have hbs : w.heap.size + 1 + 1 ≤ (((w.alloc (.cells #[.slice (some ⟨b, o, none⟩) ws.length c] 33)).alloc (.cells #[.slice none 0 0] 33)).alloc (.cells #[] 3)).heap.size := by simp
  have HX1 := Lib.hid (HX0.out.alloc HX0.out.size (.cells #[] 3))
  have hxq : Below (w.heap.size + 1 + 1) ((w.alloc (.cells #[.slice (some ⟨b, o, none⟩) ws.length c] 33)).alloc (.cells #[.slice none 0 0] 33)) (((w.alloc (.cells #[.slice (some ⟨b, o, none⟩) ws.length c] 33)).alloc (.cells #[.slice none 0 0] 33)).alloc (.cells #[] 3)) := (Below.refl _ _).alloc (by simp) _
  have HXQ := Lib.hid hxq; clear hxq
  go_enter Try.func68, Try.ntmps68
  go_wp2_with (at_builtin; refine wpList_join rfl (.tmp 18) (.tmp 20) rfl (w.heap.size + 1 + 1) (.slice (some ⟨w.heap.size + 1 + 1, 0, none⟩) 0 0) [] rfl hOW.out (some ⟨b, o, none⟩) c ws rfl hWA.out hl9 hbs ?_; intro A2 k2 w2 hown2 hgr2 hat2; simp only [List.length_nil, Nat.zero_add, List.nil_append] at hown2 hat2 ⊢; have HO2 := Lib.hid hown2; have HG2 := Lib.hid hgr2; clear hown2 hgr2 hat2)
  have hw12 : Below ((w.alloc (.cells #[.slice (some ⟨b, o, none⟩) ws.length c] 33)).alloc (.cells #[.slice none 0 0] 33)).heap.size ((w.alloc (.cells #[.slice (some ⟨b, o, none⟩) ws.length c] 33)).alloc (.cells #[.slice none 0 0] 33)) w2 := by
    rw [← hsz.out]
    exact HXQ.out.grown HG2.out hbs (fun q hq => by simp [Value.ownBlock] at hq; omega)
  obtain ⟨G, rfl, hG1, hG2, _, hk2⟩ := HO2.out.some_ (by omega)
  generalize hw1 : ((w.alloc (.cells #[.slice (some ⟨b, o, none⟩) ws.length c] 33)).alloc (.cells #[.slice none 0 0] 33)) = w1 at *
  clear hw1
  have HB12 := Lib.hid hw12
  clear hw12
  generalize hhX : other fr ot both = h at *
  have HHX := Lib.hid hhX; clear hhX
  have hbs1 : w.heap.size + 1 + 1 ≤ w2.heap.size := by have := HB12.out.size; omega
  have hoth : ∀ (x : Int) (W : World), Below w1.heap.size w1 W → Calls Try.prog 120 #[.int .i64 x, .slice C fr.length c', .slice D ot.length d', .bool both] W fun e w' => e = .returned (.int .i64 (h x)) ∧ W = w' := fun x W hb => by
    have := other_any fr ot C D c' d' both x W (HC.out.below hb) (HD.out.below hb) hfl hge
    rw [HHX.out] at this; exact this
  have HOTH := Lib.hid hoth; clear hoth
  go_loopw [13] (fun i wr => ∃ (p : Nat) (pre : List Nat), i = .int .i64 p ∧ p ≤ 200000 ∧ 2 ≤ p ∧ badFrom ws p = none ∧ places ws = pre ++ plFrom ws p ∧ w2.grownBy wr (some G) ∧ Own wr (w.heap.size + 1 + 1) (.slice (some ⟨G, 0, none⟩) ws.length k2) (exchF h ws pre)) (fun i _ => ws.length - (intOf i).toNat)
  case atStart => exact ⟨2, [], rfl, by omega, by omega, HOK.out.bad, (places_eq ws).trans rfl, World.grownBy.refl _ _, HO2.out⟩
  case round =>
    obtain ⟨p, pre, rfl, hp4, hp2, hbd, hpl, hgr, hown⟩ := hrel
    have HBD := Lib.hid hbd; have HPL := Lib.hid hpl; have HG := Lib.hid hgr; have HO := Lib.hid hown
    clear hbd hpl hgr hown
    by_cases hpw : p < ws.length
    · obtain ⟨hbad, hnx⟩ := badFrom_none HBD.out hpw
      obtain ⟨n1, n2, n3, n4, n5⟩ := not_bad hbad
      have hcast := Lib.hid (nxt_cast hbad)
      have HBAD := Lib.hid hbad; have HNX := Lib.hid hnx
      have hnl := nxt_le hbad
      have hnxe : nxt ws p = p + 3 + slotsN ws p := rfl
      have hsn : slotsN ws p = (nth ws (p + 2) / 4).toNat := rfl
      have hsub : ∀ r ∈ pre, r ∈ places ws := fun r hr => by rw [HPL.out]; exact List.mem_append_left _ hr
      have hpm : p ∈ places ws := by rw [HPL.out, plFrom_ok hpw hbad]; simp
      have hhd : nth (exchF h ws pre) (p + 2) = nth ws (p + 2) := exchF_head h ws hpm (by omega) (by omega) pre ws hsub
      have hxl := exchF_len h ws pre
      have hsx : exchF h ws (pre ++ [p]) = stepX h ws (exchF h ws pre) p := exchF_snoc h ws pre p
      have HSX := Lib.hid hsx
      clear hbad hnx hsub hpm hsx
      generalize exchF h ws pre = X at *
      have HXL := Lib.hid hxl; have HHD := Lib.hid hhd
      have hc0 := HO.out.cell p (by omega)
      have hc2 := HO.out.cell (p + 2) (by omega)
      rw [hhd] at hc2
      have hf0 := HO.out.frz p
      have hO1 := HO.out.put p (h (nth X p))
      have hm1 : X.set p (h (nth X p)) = mapSeg h X p 1 := by
        have := mapSeg_succ (h := h) (xs := X) (off := p) (k := 0) (by omega)
        rw [mapSeg_zero] at this; exact this.symm
      rw [hm1] at hO1
      have HO1 := Lib.hid hO1
      clear hO1 hm1 hxl hhd
      have hbr : Below w1.heap.size w1 wr := HB12.out.grown HG.out HB12.out.size (fun q hq => by have := hsz.out; simp at hq; omega)
      have HBR := Lib.hid hbr; clear hbr
      go_wp2_with (go_at_call 120; refine (HOTH.out _ _ HBR.out).mono ?_; rintro e w' ⟨rfl, rfl⟩)
      have hx2 : Own (wr.setCell ⟨G, p, none⟩ (.int .i64 (h (nth X p)))) (w.heap.size + 1 + 1) (.slice (some ⟨G, 0, none⟩) ws.length k2) (mapSeg h X p 1) := HO1.out
      have HO1' := Lib.hid hx2
      clear hx2
      have HG1' := Lib.hid (grownBy_setCell HG.out (p := ⟨G, p, none⟩) (Or.inr rfl) (.int .i64 (h (nth X p))))
      generalize hwr1 : wr.setCell ⟨G, p, none⟩ (.int .i64 (h (nth X p))) = wr1 at *
      clear hwr1
      have hx1 : nth (mapSeg h X p 1) (p + 2) = nth ws (p + 2) := by rw [mapSeg_nth (by rw [HXL.out]; omega), if_neg (by omega)]; exact HHD.out
      have HX1' := Lib.hid hx1
      have hl1 : (mapSeg h X p 1).length = ws.length := by rw [mapSeg_len]; exact HXL.out
      have HL1 := Lib.hid hl1
      clear hx1 hl1
      have HST : Hid (stepX h ws X p = if formOf ws p = 1 then mapSeg h X p 1 else mapSeg h (mapSeg h X p 1) (p + 3) (slotsN ws p)) := rfl
      generalize mapSeg h X p 1 = Y at *
      go_loopw [14] (fun i u => ∃ k : Nat, i = .int .i64 ((p + 3 + k : Nat) : Int) ∧ k ≤ slotsN ws p ∧ (formOf ws p = 1 → k = 0) ∧ w2.grownBy u (some G) ∧ Own u (w.heap.size + 1 + 1) (.slice (some ⟨G, 0, none⟩) ws.length k2) (mapSeg h Y (p + 3) k)) (fun i _ => ws.length + 1 - (intOf i).toNat)
      case atStart => exact ⟨0, by go_num, Nat.zero_le _, fun _ => rfl, HG1'.out, by rw [mapSeg_zero]; exact HO1'.out⟩
      case round =>
        obtain ⟨k, rfl, hk, hk0, hgr, hown⟩ := hrel
        have HG3 := Lib.hid hgr; have HO3 := Lib.hid hown
        clear hgr hown
        have hc3 := HO3.out.cell (p + 2) (by rw [mapSeg_len, HL1.out]; omega)
        have hy2 : nth (mapSeg h Y (p + 3) k) (p + 2) = nth ws (p + 2) := by rw [mapSeg_nth (by rw [HL1.out]; omega), if_neg (by omega)]; exact HX1'.out
        rw [hy2] at hc3
        clear hy2
        have hf4 : Hid (formOf ws p = nth ws (p + 2) % 4) := rfl
        have hb3 : Below w1.heap.size w1 wr := HB12.out.grown HG3.out HB12.out.size (fun q hq => by have := hsz.out; simp at hq; omega)
        have HB3 := Lib.hid hb3; clear hb3
        by_cases hks : k < slotsN ws p
        · by_cases hf1 : formOf ws p = 1
          · obtain rfl := hk0 hf1
            have hm4 : nth ws (p + 2) % 4 = 1 := hf1
            have HF1 := Lib.hid hf1
            clear hk0 hf1
            have hO6 : Own wr (w.heap.size + 1 + 1) (.slice (some ⟨G, 0, none⟩) ws.length k2) (exchF h ws (pre ++ [p])) := by
              rw [HSX.out, HST.out, if_pos HF1.out]
              have := HO3.out
              rwa [mapSeg_zero] at this
            have HO6 := Lib.hid hO6
            clear hO6
            go_wp2_with fail
            go_roundw
            case rel => exact ⟨nxt ws p, pre ++ [p], by rw [hcast.out], by omega, by omega, HNX.out, by rw [HPL.out, plFrom_ok hpw HBAD.out]; simp, HG3.out, HO6.out⟩
            case measure => simp [intOf]; omega
          · have hm4 : ¬ nth ws (p + 2) % 4 = 1 := hf1
            have HF1 := Lib.hid hf1
            clear hk0 hf1
            have hyl : p + 3 + k < Y.length := by rw [HL1.out]; omega
            have hcc := HO3.out.cell (p + 3 + k) (by rw [mapSeg_len]; exact hyl)
            have hff := HO3.out.frz (p + 3 + k)
            have hpp := HO3.out.put (p + 3 + k) (h (nth (mapSeg h Y (p + 3) k) (p + 3 + k)))
            rw [mapSeg_at hyl] at hpp hcc
            rw [← mapSeg_succ hyl] at hpp
            have HPP := Lib.hid hpp
            have HG4 := Lib.hid (grownBy_setCell HG3.out (p := ⟨G, p + 3 + k, none⟩) (Or.inr rfl) (.int .i64 (h (nth Y (p + 3 + k)))))
            clear hyl hpp
            go_wp2_with (go_at_call 120; refine (HOTH.out _ _ HB3.out).mono ?_; rintro e w' ⟨rfl, rfl⟩)
            go_roundw
            case rel => exact ⟨k + 1, by go_num, by omega, fun e => absurd e HF1.out, HG4.out, HPP.out⟩
            case measure => simp [intOf]; omega
        · obtain rfl : k = slotsN ws p := by omega
          have hsx : stepX h ws X p = mapSeg h Y (p + 3) (slotsN ws p) := by
            rw [HST.out]
            split
            · rename_i e; rw [hk0 e, mapSeg_zero]
            · rfl
          have HSE := Lib.hid (HSX.out.trans hsx)
          clear hsx hk0
          have hO6 : Own wr (w.heap.size + 1 + 1) (.slice (some ⟨G, 0, none⟩) ws.length k2) (exchF h ws (pre ++ [p])) := by rw [HSE.out]; exact HO3.out
          have HO6 := Lib.hid hO6
          clear hO6
          go_wp2_with fail
          go_roundw
          case rel => exact ⟨nxt ws p, pre ++ [p], by rw [hcast.out], by omega, by omega, HNX.out, by rw [HPL.out, plFrom_ok hpw HBAD.out]; simp, HG3.out, HO6.out⟩
          case measure => simp [intOf]; omega
    · have hpe : places ws = pre := by rw [HPL.out, plFrom_end (by omega), List.append_nil]
      have hOE : Own wr (w.heap.size + 1 + 1) (.slice (some ⟨G, 0, none⟩) ws.length k2) (exchF h ws (places ws)) := by rw [hpe]; exact HO.out
      have HOE := Lib.hid hOE
      have hel : (exchF h ws (places ws)).length = ws.length := exchF_len h ws _
      have HEL := Lib.hid hel
      have hbr : Below w1.heap.size w1 wr := HB12.out.grown HG.out HB12.out.size (fun q hq => by have := hsz.out; simp at hq; omega)
      have HBR := Lib.hid hbr
      clear hpe hOE hel hbr
      obtain ⟨wo, rfl⟩ : ∃ x, x = wr := ⟨_, rfl⟩
      have hos := HBR.out.size
      have hGo := HOE.out.block.2
      go_wp2_with fail
      go_loopw [15, 16] (fun v i u => ∃ j : Nat, i = .int .i64 j ∧ j ≤ rs.length ∧ Below wo.heap.size wo u ∧ Own u wo.heap.size v ((rs.take j).map h)) (fun _ i _ => rs.length - (intOf i).toNat)
      case atStart => exact ⟨0, rfl, Nat.zero_le _, Below.refl _ _, Own.nil _ _⟩
      case round =>
        obtain ⟨j, rfl, hj, hb5, hown5⟩ := hrel
        have HB5 := Lib.hid hb5; have HO5 := Lib.hid hown5
        clear hb5 hown5
        have hb15 : Below w1.heap.size w1 wr := HBR.out.trans (HB5.out.mono HBR.out.size)
        have HB15 := Lib.hid hb15; clear hb15
        by_cases hjl : j < rs.length
        · obtain ⟨b', o', rfl, hb', hrow'⟩ := HB.out (by omega)
          have hcell := (hrow'.below HB15.out hb') j hjl
          clear hrow'
          go_wp2_with (first
            | (go_at_call 120; refine (HOTH.out _ _ HB15.out).mono ?_; rintro e w' ⟨rfl, rfl⟩)
            | (at_builtin; refine wpList_push rfl _ _ rfl wo.heap.size _ ((rs.take j).map h) rfl (HO5.out.alloc _) wr.heap.size 1 (h (nth rs j)) rfl (cell_new wr _ _ _ 0) (by simp; omega) (by have := HB5.out.size; simp; omega) ?_; intro g1 cap w7 hown7 _ hgr7))
          go_roundw
          case rel =>
            refine ⟨j + 1, by go_num, by omega, ?_, ?_⟩
            · exact ((HB5.out.alloc HB5.out.size _).grown hgr7 (by have := HB5.out.size; simp; omega) (fun q hq => (HO5.out.lt q hq).1))
            · rw [List.take_succ_eq_append_getElem hjl, List.map_append, List.map_singleton, ← nth_eq hjl]
              simp only [List.length_map, List.length_take, Nat.min_eq_left hj] at hown7 ⊢
              exact hown7
          case measure => simp [intOf]; omega
        · obtain rfl : j = rs.length := by omega
          obtain ⟨A5, c5, rfl, hA5, hc5, _⟩ := HO5.out.form2
          obtain ⟨z1, z2, z3⟩ := (HR0.out.below HB15.out HR0.out.lt).f1
          have HO6 := Lib.hid (HOE.out.below HB5.out (fun q hq => by simp [Value.ownBlock] at hq; omega))
          have hos5 := HB5.out.size
          have hl1 : w.heap.size ≤ w1.heap.size := HX0.out.size
          have hO5 := HO5.out
          rw [List.take_length] at hO5
          have HO5' := Lib.hid hO5
          clear hO5
          simp only [List.take_length] at *
          go_wp2_with fail
          refine bodyPost_ret (v := .tuple #[.agg #[.slice (some ⟨G, 0, none⟩) ws.length k2], .slice A5 (rs.map h).length c5]) (by simp [results, Try.results68, go_sem, z1]) rfl ⟨(HX0.out.trans (HB15.out.mono hl1)).setCell (by dsimp only; omega) _, some ⟨G, 0, none⟩, k2, A5, c5, ?_, ?_, ?_⟩
          · rw [HEL.out]
          · rw [HEL.out]
            exact (HO6.out.mono (by omega)).setCell _ (by simp [Value.ownBlock]; omega) _
          · exact (HO5'.out.mono (by omega)).setCell _ (fun e => by have := (HO5'.out.lt _ e).1; dsimp only at this; omega) _
end Go.Proofs.Ytjpppdacamhhfaa
