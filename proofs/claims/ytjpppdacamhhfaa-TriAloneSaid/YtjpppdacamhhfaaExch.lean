/- Things' references and roots are turned by a map. Conditions: numbers of 64 bits, a heap that may be. -/
import Derived.Test.YtjpppdacamhhfaaTurn
namespace Go.Proofs.Ytjpppdacamhhfaa
open Go.RowKit
set_option linter.unusedVariables false

theorem i64_of_turn {h : Int → Int} {xs : List Int} (hx : I64 xs) (hh : ∀ o, -9223372036854775808 ≤ o → o ≤ 9223372036854775807 → -9223372036854775808 ≤ h o ∧ h o ≤ 9223372036854775807) (off n : Nat) : I64 (mapSeg h xs off n) := fun j => by
  rcases Nat.lt_or_ge j xs.length with hj | hj
  · rw [mapSeg_nth hj]
    split
    · exact hh _ (hx j).1 (hx j).2
    · exact hx j
  · rw [nth_out (by rw [mapSeg_len]; exact hj)]; omega
theorem i64_step {h : Int → Int} {ws xs : List Int} (hx : I64 xs) (hh : ∀ o, -9223372036854775808 ≤ o → o ≤ 9223372036854775807 → -9223372036854775808 ≤ h o ∧ h o ≤ 9223372036854775807) (p : Nat) : I64 (stepX h ws xs p) := by
  unfold stepX
  split
  · exact i64_of_turn hx hh _ _
  · exact i64_of_turn (i64_of_turn hx hh _ _) hh _ _

theorem ints_of_own' {w : World} {base n c : Nat} {A : Option Addr} {xs : List Int} (h : Own w base (.slice A n c) xs) : Ints w A xs ∧ n = xs.length ∧ n ≤ c := by
  obtain ⟨A', c', hv, hA, hc, hb⟩ := h.form2
  simp at hv
  obtain ⟨rfl, rfl, rfl⟩ := hv
  exact ⟨hA, rfl, hc⟩

/-- Two rows of the call's own. -/
def TwoOut (a b : List Int) (w : World) (e : Ending) (w' : World) : Prop :=
  Below w.heap.size w w' ∧ ∃ A c B d, e = .returned (.tuple #[.agg #[.slice A a.length c], .slice B b.length d]) ∧ Own w' w.heap.size (.slice A a.length c) a ∧ Own w' w.heap.size (.slice B b.length d) b

set_option maxRecDepth 100000 in
set_option maxHeartbeats 4000000 in
theorem exch_any (h : Int → Int) (ws rs : List Int) (g : Nat) (B : Option Addr) (d M nM : Nat) (f : Int → Option Value) (w : World) (hv : ViewAt w g ws) (hok : OkH ws) (hw : I64 ws)
    (hB : Ints w B rs) (hr : I64 rs) (hrl : rs.length ≤ 1000000) (hM : MapI w M nM f) (ht : Turns f h)
    (hh : ∀ o, -9223372036854775808 ≤ o → o ≤ 9223372036854775807 → -9223372036854775808 ≤ h o ∧ h o ≤ 9223372036854775807) :
    Calls Try.prog 153 #[.pointer (some ⟨g, 0, none⟩), .slice B rs.length d, .map (some M)] w (TwoOut (exchF h ws (places ws)) (rs.map h) w) := by
  have hx0 : Below w.heap.size w ((w.alloc (.cells #[.map (some M)] 110)).alloc (.cells #[.slice none 0 0] 33)) := ((Below.refl _ _).alloc (Nat.le_refl _) _).alloc (by simp) _
  have hn0 : Blk ((w.alloc (.cells #[.map (some M)] 110)).alloc (.cells #[.slice none 0 0] 33)) w.heap.size 110 #[.map (some M)] := (Blk.new _ _ _).alloc _
  have hr0 : Blk ((w.alloc (.cells #[.map (some M)] 110)).alloc (.cells #[.slice none 0 0] 33)) (w.heap.size + 1) 33 #[.slice none 0 0] := by
    have := Blk.new (w.alloc (.cells #[.map (some M)] 110)) 33 #[.slice none 0 0]
    simpa using this
  have hq2 : ws.length ≤ 2000 := hok.most
  have hq1 : 2 ≤ ws.length := hok.two
  have hMl : M < w.heap.size := hM.lt
  obtain ⟨b, o, c', M', A', oc, v0, v1, v2, hg, hb, hcc, hrow, hord⟩ := hv.cells
  have HROW := Lib.hid (hrow.below hx0 hb); have HORD := Lib.hid (hord.below hx0)
  have V2 := Lib.hid ((hx0.cell (p := ⟨g, 2, none⟩) hg).trans v2)
  have hg0 : g < ((w.alloc (.cells #[.map (some M)] 110)).alloc (.cells #[.slice none 0 0] 33)).heap.size := by simp; omega
  have HV := Lib.hid (hv.below hx0)
  have HB := Lib.hid (hB.below hx0)
  have HM := Lib.hid (hM.below hx0 hM.lt)
  have HOK := Lib.hid hok; have HW := Lib.hid hw; have HRW := Lib.hid hr; have HT := Lib.hid ht; have HH := Lib.hid hh; have HL := Lib.hid hx0; have HN := Lib.hid hn0; have HR := Lib.hid hr0
  clear hv hok hw hB hr hM ht hh hx0 hn0 hr0 hrow hord v1 v2
  have hb1 : b < ((w.alloc (.cells #[.map (some M)] 110)).alloc (.cells #[.slice none 0 0] 33)).heap.size := by simp; omega
  have HWA : Hid (Ints ((w.alloc (.cells #[.map (some M)] 110)).alloc (.cells #[.slice none 0 0] 33)) (some ⟨b, o, none⟩) ws) := fun _ => ⟨b, o, rfl, hb1, HROW.out⟩
  have hpl : (places ws).length ≤ ws.length := places_len ws
  go_enter Try.func153, Try.ntmps153
  go_wp2_with fail
  have hz1 : ((w.alloc (.cells #[.map (some M)] 110)).alloc (.cells #[.slice none 0 0] 33)).heap.size = w.heap.size + 2 := by simp
  have HZ1 := Lib.hid hz1; clear hz1
  generalize hw1 : ((w.alloc (.cells #[.map (some M)] 110)).alloc (.cells #[.slice none 0 0] 33)) = w1 at *
  clear hw1
  refine (clone_any ws (some ⟨b, o, none⟩) c' w1 HWA.out (by omega)).mono ?_
  rintro e w2 ⟨hx2, A2, k2, rfl, hown2⟩
  obtain ⟨G, rfl, hG1, hG2, _, hk2⟩ := hown2.some_ (by omega)
  have HO2 := Lib.hid hown2
  have HX2 := Lib.hid hx2
  have HB2 := Lib.hid (HB.out.below hx2)
  clear hown2
  go_wp2_with fail
  refine (clone_any rs B d w2 HB2.out (by omega)).mono ?_
  rintro e w3 ⟨hx3, A3, k3, rfl, hown3⟩
  have hne3 : ∀ q, (Value.slice A3 rs.length k3).ownBlock = some q → w2.heap.size ≤ q ∧ q < w3.heap.size := fun q hq => hown3.lt q hq
  have HNE := Lib.hid hne3; clear hne3
  have HO3 := Lib.hid (Own.mono hown3 hx2.size)
  have HO23 := Lib.hid (HO2.out.below hx3 (fun q hq => by simp [Value.ownBlock] at hq; omega))
  have hx13 := hx2.trans (hx3.mono hx2.size)
  have HX13 := Lib.hid hx13
  clear hown3 hx2 hx3
  have HV3 := Lib.hid (HV.out.below hx13)
  have HM3 := Lib.hid (HM.out.below hx13 HM.out.lt)
  have HN3 := Lib.hid (HN.out.below hx13 HN.out.lt)
  have HR3 := Lib.hid (HR.out.below hx13 HR.out.lt)
  have HORD3 := Lib.hid (HORD.out.below hx13)
  have hs13 := hx13.size
  have hzz := HZ1.out
  have hs12 : w1.heap.size ≤ w2.heap.size := HX2.out.size
  have u2 := (hx13.cell (p := ⟨g, 2, none⟩) hg0).trans V2.out
  have ug : g < w3.heap.size := Nat.lt_of_lt_of_le hg0 hs13
  clear hx13
  go_wp2_with fail
  have hG3 : G < w3.heap.size := HO23.out.block.2
  go_loopw [26] (fun s wr => ∃ k : Nat, k ≤ (places ws).length ∧ s = .int .i64 k ∧ w3.grownBy wr (some G) ∧ Own wr w1.heap.size (.slice (some ⟨G, 0, none⟩) ws.length k2) (exchF h ws ((places ws).take k)) ∧ I64 (exchF h ws ((places ws).take k))) (fun s _ => (places ws).length - (intOf s).toNat)
  case atStart => exact ⟨0, Nat.zero_le _, rfl, World.grownBy.refl _ _, HO23.out, HW.out⟩
  case round =>
    obtain ⟨k, hk, rfl, hgr, hown, hi64⟩ := hrel
    have HG := Lib.hid hgr; have HO := Lib.hid hown; have HI := Lib.hid hi64
    clear hgr hown hi64
    have hbr : Below w1.heap.size w1 wr := HX13.out.grown HG.out (by omega) (fun q hq => by simp at hq; omega)
    have HBR := Lib.hid hbr; clear hbr
    have hNlt := HN.out.lt
    have hMlt := HM.out.lt
    by_cases hkl : k < (places ws).length
    · obtain ⟨bo, oo, rfl, hbo, hro⟩ := HORD.out (by rw [ups_len]; omega)
      have hcell := (HBR.out.cell (p := ⟨bo, oo + k, none⟩) hbo).trans (hro k (by rw [ups_len]; exact hkl))
      rw [ups_nth hkl] at hcell
      clear hro
      have htk : (places ws).take (k + 1) = (places ws).take k ++ [(places ws).getD k 0] := by
        rw [List.take_succ_eq_append_getElem hkl]; simp [List.getD, hkl]
      have hq : (places ws).getD k 0 ∈ places ws := by simp [List.getD, hkl]
      have HTK := Lib.hid htk
      clear htk
      generalize (places ws).getD k 0 = p at *
      obtain ⟨p2, pl, pb⟩ := places_mem hq
      obtain ⟨m1, m2, m3, m4, m5⟩ := not_bad pb
      have hsn : slotsN ws p = (nth ws (p + 2) / 4).toNat := rfl
      have hnx := nxt_le pb
      have hnxe : nxt ws p = p + 3 + slotsN ws p := rfl
      have HXL := Lib.hid (exchF_len h ws ((places ws).take k))
      have b1 : ¬ k2 = p := by omega
      have b2 : (0 : Int) ≤ (p : Int) := by omega
      have b3 : (p : Int) + 1 ≤ (k2 : Int) := by omega
      have hex : exchF h ws ((places ws).take (k + 1)) = stepX h ws (exchF h ws ((places ws).take k)) p := by rw [HTK.out, exchF_snoc]
      have HEX := Lib.hid hex
      clear hex
      generalize exchF h ws ((places ws).take k) = X at *
      have hO' : Own wr w1.heap.size (.slice (some ⟨G, 0, none⟩) X.length k2) X := by rw [HXL.out]; exact HO.out
      have HO' := Lib.hid hO'
      clear hO'
      go_wp2_with fail
      refine (turn_any h X w1.heap.size G k2 p 1 (k2 - p) w.heap.size M nM f wr HO'.out HI.out (by rw [HXL.out]; omega) (by rw [HXL.out]; omega) (HN.out.below HBR.out HN.out.lt) (HM.out.below HBR.out HM.out.lt) HT.out (by omega) (by omega)).mono ?_
      rintro e w5 ⟨rfl, hO5, hg5⟩
      have HG5 := Lib.hid (grownBy_trans HG.out hg5)
      have HO5 := Lib.hid hO5
      have hb5 : Below w1.heap.size w1 w5 := HX13.out.grown HG5.out (by omega) (fun q hq => by simp at hq; omega)
      have HB5 := Lib.hid hb5
      have HV5 := Lib.hid (HV.out.below hb5)
      clear hO5 hg5 hb5 hcell
      cases hfm : (formOf ws p != 1)
      · have hst : stepX h ws X p = mapSeg h X p 1 := by unfold stepX; rw [if_pos (by simpa using hfm)]
        have HST := Lib.hid hst
        clear hst
        go_wp2_with (go_at_call 97; refine (formv_any HV5.out HW.out (by omega) p (by omega)).mono ?_; rintro e w' ⟨rfl, rfl⟩)
        go_roundw
        case rel =>
          refine ⟨k + 1, by omega, by go_num, HG5.out, ?_, ?_⟩
          · rw [HEX.out, HST.out]; rw [← HXL.out]; exact HO5.out
          · rw [HEX.out]; exact i64_step HI.out HH.out p
        case measure => simp [intOf]; omega
      · have hst : stepX h ws X p = mapSeg h (mapSeg h X p 1) (p + 3) (slotsN ws p) := by unfold stepX; rw [if_neg (by simpa using hfm)]
        have HST := Lib.hid hst
        clear hst
        have hml : (mapSeg h X p 1).length = X.length := mapSeg_len _ _ _ _
        have hmi := i64_of_turn HI.out HH.out p 1
        have hO6 : Own w5 w1.heap.size (.slice (some ⟨G, 0, none⟩) (mapSeg h X p 1).length k2) (mapSeg h X p 1) := by rw [hml]; exact HO5.out
        have HML := Lib.hid hml; have HMI := Lib.hid hmi; have HO6 := Lib.hid hO6
        clear hml hmi hO6
        by_cases h0 : slotsN ws p = 0
        · have t0 : nth ws (p + 2) / 4 = 0 := by omega
          have t1 : (p : Int) + 3 ≤ (k2 : Int) := by omega
          have t2 : (0 : Int) ≤ (p : Int) + 3 := by omega
          by_cases hkc : k2 = p + 3
          all_goals (try subst hkc)
          all_goals
            go_wp2_with (first
              | (go_at_call 97; refine (formv_any HV5.out HW.out (by omega) p (by omega)).mono ?_; rintro e w' ⟨rfl, rfl⟩)
              | (go_at_call 116; refine (endv_any HV5.out HW.out (by omega) p (by omega)).mono ?_; rintro e w' ⟨rfl, rfl⟩))
            refine (turn_none _ _ _ _).mono ?_
            rintro e w' ⟨rfl, rfl⟩
            have HST := Lib.hid (HST.out.trans (show _ = mapSeg h X p 1 by rw [h0, mapSeg_zero]))
            have HO7 := HO6
            have HG6 := HG5
            go_wp2
            go_roundw
            case rel =>
              refine ⟨k + 1, by omega, by go_num, HG6.out, ?_, ?_⟩
              · rw [HEX.out, HST.out]; rw [← HXL.out, ← HML.out]; exact HO7.out
              · rw [HEX.out]; exact i64_step HI.out HH.out p
            case measure => simp [intOf]; omega
        · have t1 : ¬ k2 = p + 3 := by omega
          have t2 : (p : Int) + 3 + nth ws (p + 2) / 4 ≤ (k2 : Int) := by omega
          go_wp2_with (first
            | (go_at_call 97; refine (formv_any HV5.out HW.out (by omega) p (by omega)).mono ?_; rintro e w' ⟨rfl, rfl⟩)
            | (go_at_call 116; refine (endv_any HV5.out HW.out (by omega) p (by omega)).mono ?_; rintro e w' ⟨rfl, rfl⟩))
          have hn : ((p : Int) + 3 + nth ws (p + 2) / 4).toNat - (p + 3) = slotsN ws p := by omega
          rw [hn]
          clear hn
          refine (turn_any h (mapSeg h X p 1) w1.heap.size G k2 (p + 3) (slotsN ws p) (k2 - (p + 3)) w.heap.size M nM f w5 HO6.out HMI.out (by rw [HML.out, HXL.out]; omega) (by rw [HML.out, HXL.out]; omega) (HN.out.below HB5.out HN.out.lt) (HM.out.below HB5.out HM.out.lt) HT.out (by omega) (by omega)).mono ?_
          rintro e w7 ⟨rfl, hO7, hg7⟩
          have HO7 := Lib.hid hO7
          have HG6 := Lib.hid (grownBy_trans HG5.out hg7)
          clear hO7 hg7
          go_wp2
          go_roundw
          case rel =>
            refine ⟨k + 1, by omega, by go_num, HG6.out, ?_, ?_⟩
            · rw [HEX.out, HST.out]; rw [← HXL.out, ← HML.out]; exact HO7.out
            · rw [HEX.out]; exact i64_step HI.out HH.out p
          case measure => simp [intOf]; omega
    · obtain rfl : k = (places ws).length := by omega
      have htl : (places ws).take (places ws).length = places ws := List.take_length
      rw [htl] at HO HI
      have HXL := Lib.hid (exchF_len h ws (places ws))
      have HOA := Lib.hid (HO3.out.grown HG.out (.inr (fun e => by have := (HNE.out G e).1; omega)))
      have hR4 := Lib.hid (HR.out.below HBR.out HR.out.lt)
      have hRlt := HR.out.lt
      have hlw : w.heap.size ≤ w1.heap.size := HL.out.size
      have hel : (exchF h ws (places ws)).length = ws.length := HXL.out
      have HEL := Lib.hid hel; clear hel
      go_wp2_with fail
      by_cases hrs : rs = []
      · subst hrs
        refine (turn_none _ _ _ _).mono ?_
        rintro e w' ⟨rfl, rfl⟩
        obtain ⟨z1, z2, z3⟩ := hR4.out.f1
        go_wp2
        refine bodyPost_ret (v := .tuple #[.agg #[.slice (some ⟨G, 0, none⟩) ws.length k2], .slice A3 0 k3]) (by simp [results, Try.results153, go_sem, z1]) rfl ⟨(HL.out.trans (HBR.out.mono hlw)).setCell (by dsimp only; omega) _, some ⟨G, 0, none⟩, k2, A3, k3, ?_, ?_, ?_⟩
        · rw [HEL.out]; rfl
        · rw [HEL.out]
          exact (HO.out.mono hlw).setCell _ (by simp [Value.ownBlock]; omega) _
        · exact (HOA.out.mono hlw).setCell _ (fun e => by have := (HOA.out.lt _ e).1; dsimp only at this; omega) _
      · obtain ⟨g3, rfl, hg31, hg32, _, hk3⟩ := HO3.out.some_ (List.length_pos_iff.2 hrs)
        have hgG : w2.heap.size ≤ g3 := (HNE.out g3 rfl).1
        refine (turn_any h rs w1.heap.size g3 k3 0 rs.length k3 w.heap.size M nM f wr HOA.out HRW.out (by omega) hrl (HN.out.below HBR.out HN.out.lt) (HM.out.below HBR.out HM.out.lt) HT.out (by omega) (by omega)).mono ?_
        rintro e w8 ⟨rfl, hO8, hg8⟩
        rw [mapSeg_all] at hO8
        have HO8 := Lib.hid hO8
        have HG8 := Lib.hid hg8
        have hb8 : Below w1.heap.size w1 w8 := HBR.out.grown hg8 HBR.out.size (fun q hq => by simp at hq; omega)
        have HB8 := Lib.hid hb8
        obtain ⟨z1, z2, z3⟩ := (HR.out.below hb8 HR.out.lt).f1
        clear hO8 hg8 hb8
        go_wp2
        refine bodyPost_ret (v := .tuple #[.agg #[.slice (some ⟨G, 0, none⟩) ws.length k2], .slice (some ⟨g3, 0, none⟩) rs.length k3]) (by simp [results, Try.results153, go_sem, z1]) rfl ⟨(HL.out.trans (HB8.out.mono hlw)).setCell (by dsimp only; omega) _, some ⟨G, 0, none⟩, k2, some ⟨g3, 0, none⟩, k3, ?_, ?_, ?_⟩
        · rw [HEL.out, List.length_map]
        · rw [HEL.out]
          exact ((HO.out.grown HG8.out (.inr (by simp [Value.ownBlock]; omega))).mono hlw).setCell _ (by simp [Value.ownBlock]; omega) _
        · rw [List.length_map]
          exact (HO8.out.mono hlw).setCell _ (by simp [Value.ownBlock]; omega) _
end Go.Proofs.Ytjpppdacamhhfaa
