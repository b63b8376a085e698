/- tri.player: scan. Conditions: numbers of 64 bits. -/
import Derived.Test.YtjpppdacamhhfaaTrA
namespace Go.Proofs.Ytjpppdacamhhfaa
open Go.RowKit
set_option linter.unusedVariables false

theorem turned_below_ {w w' : World} (h : Below w.heap.size w w') (S : Nat → Prop) : Turned w w' S := ⟨h.os, h.tape, h.output, h.size, fun k hk _ => h.block k hk⟩
theorem greyAt_at {ws : List Int} {col : Nat → Int} {k : Nat} (hk : k < (places ws).length) (h : ∀ j, j < k → col ((places ws).getD j 0) ≠ 1) (h1 : col ((places ws).getD k 0) = 1) : greyAt ws col = some ((places ws).getD k 0) := by
  unfold greyAt
  rw [List.find?_eq_some_iff_getElem]
  refine ⟨by simpa using h1, k, hk, by simp [List.getD, hk], fun j hj => ?_⟩
  have := h j hj
  simp only [List.getD, List.getElem?_eq_getElem (show j < (places ws).length by omega), Option.getD_some] at this
  simpa using this
theorem greyAt_none {ws : List Int} {col : Nat → Int} (h : ∀ j, j < (places ws).length → col ((places ws).getD j 0) ≠ 1) : greyAt ws col = none := by
  unfold greyAt
  rw [List.find?_eq_none]
  intro p hp
  obtain ⟨j, hj, rfl⟩ := List.getElem_of_mem hp
  have := h j hj
  simp only [List.getD, List.getElem?_eq_getElem hj, Option.getD_some] at this
  simpa using this
theorem shades_snoc (col : Nat → Int) (l : List Int) (o : Int) : shades col (l ++ [o]) = shadeC (shades col l) o := by
  unfold shades; rw [List.foldl_append]; rfl
theorem shades_take {col : Nat → Int} {l : List Int} {j : Nat} (hj : j < l.length) : shades col (l.take (j + 1)) = shadeC (shades col (l.take j)) (nth l j) := by
  rw [List.take_succ_eq_append_getElem hj, shades_snoc, nth_eq hj]
theorem view_order {w : World} {g : Nat} {ws : List Int} (hv : ViewAt w g ws) : ∃ b o c M A oc, Blk w g 112 #[.slice (some ⟨b, o, none⟩) ws.length c, .map (some M), .slice A (places ws).length oc] ∧ Row w b o ws ∧ b < w.heap.size ∧ Ints w A (ups (places ws)) ∧ g < w.heap.size := by
  obtain ⟨b, o, c, M, n, f, A, oc, hg, hlt, hblk, hc, hr, hm, hfi, hi⟩ := hv.at_
  exact ⟨b, o, c, M, A, oc, hblk, hr, hlt, hi, hg⟩

theorem cell_ne_map {w : World} {a : Addr} {v : Value} {M : Nat} {col : Nat → Int} (h : w.cell? a = some v) (hM : ColAt w M col) : a.block ≠ M := by
  rintro rfl
  obtain ⟨n, f, ⟨es, clock, hb, -⟩, -⟩ := hM
  unfold World.cell? at h
  rw [hb] at h
  simp at h
theorem Row.turn {w w' : World} {S : Nat → Prop} {b o : Nat} {xs : List Int} (h : Row w b o xs) (ht : Turned w w' S) (hS : ¬ S b) (hlt : b < w.heap.size) : Row w' b o xs := fun j hj => (World.cell?_of_block (a := ⟨b, o + j, none⟩) (ht.block b hlt hS)).trans (h j hj)
theorem holds_plain {ws : List Int} {p : Nat} (h : formOf ws p = 0) : holdsL ws p = nth ws p :: slotsL ws p := by unfold holdsL; rw [if_pos h]
theorem holds_other {ws : List Int} {p : Nat} (h : ¬ formOf ws p = 0) : holdsL ws p = [nth ws p] := by unfold holdsL; rw [if_neg h]
theorem scan_some {ws : List Int} {col : Nat → Int} {p : Nat} (h : greyAt ws col = some p) : scanC ws col = upd (shades col (holdsL ws p)) p 2 := by unfold scanC; rw [h]
theorem scan_none {ws : List Int} {col : Nat → Int} (h : greyAt ws col = none) : scanC ws col = col := by unfold scanC; rw [h]

set_option maxRecDepth 100000 in
set_option maxHeartbeats 4000000 in
theorem scan_any (ws : List Int) (P M : Nat) (A : Option Addr) (c : Nat) (y : Value) (col : Nat → Int) (w : World) (hP : Blk w P 171 #[.slice A ws.length c, y, .map (some M)]) (hPM : P ≠ M) (hM : ColAt w M col) (hA : Ints w A ws) (hcap : ws.length ≤ c) (hok : OkH ws) (hw : I64 ws) :
    Calls Try.prog 159 #[.pointer (some ⟨P, 0, none⟩)] w (ShadeEnd M (scanC ws col) w) := by
  have HV := Lib.hid (view_any ws P A c y (.map (some M)) w hP hA hcap hok hw)
  have HP := Lib.hid hP; have HM := Lib.hid hM; have HW := Lib.hid hw
  have hq1 := hok.most
  have hpl := places_le ws
  have HOK := Lib.hid hok
  clear hP hM hA hok hw
  go_enter Try.func159, Try.ntmps159
  go_wp2_with fail
  refine HV.out.mono ?_
  rintro e w2 ⟨g, rfl, hv, hb2⟩
  have HX2 := Lib.hid (turned_below_ hb2 (fun k => k = M))
  have HP2 := Lib.hid (HP.out.below hb2 HP.out.lt); have HM2 := Lib.hid (HM.out.same (hb2.block M HM.out.lt)); have HV2 := Lib.hid hv
  have hML := HM.out.lt
  have hsz2 := hb2.size
  clear hb2 hv HP HV
  obtain ⟨b, o, c', M', A', oc, hblk, hrow, hlt, hord, hgl⟩ := view_order HV2.out
  have hMs := HM2.out.lt
  obtain ⟨v1, v2, v3, v4, v5, v6, v7⟩ := hblk.f3
  have HBK := Lib.hid hblk; have HROW := Lib.hid hrow; have HORD := Lib.hid hord
  have hgM : g ≠ M := cell_ne_map v1 HM2.out
  have hcl : ws.length ≤ c' := by
    obtain ⟨b9, o9, c9, M9, n9, f9, A9, oc9, -, -, hb9, hc9, -⟩ := HV2.out.at_
    have := hb9.symm.trans hblk
    simp at this
    omega
  clear hblk hrow hord
  go_wp2_with fail
  go_loopw [14] (fun i wr => ∃ k : Nat, i = .int .i64 (k : Int) ∧ k ≤ (places ws).length ∧ w2 = wr ∧ ∀ j, j < k → col ((places ws).getD j 0) ≠ 1) (fun i _ => (places ws).length - (intOf i).toNat)
  case atStart => exact ⟨0, rfl, Nat.zero_le _, rfl, fun j hj => absurd hj (Nat.not_lt_zero _)⟩
  case round =>
    obtain ⟨k, rfl, hk, rfl, hall⟩ := hrel
    have HALL := Lib.hid hall
    clear hall
    by_cases hkl : k < (places ws).length
    · obtain ⟨bo, oo, rfl, hbo, hro⟩ := HORD.out (by rw [ups_len]; omega)
      have e1 := hro k (by rw [ups_len]; exact hkl)
      rw [ups_nth hkl] at e1
      have hpm : (places ws).getD k 0 ∈ places ws := by simp [List.getD, hkl]
      have HG := Lib.hid (fun h1 => greyAt_at (col := col) hkl HALL.out h1)
      have HNX : Hid (col ((places ws).getD k 0) ≠ 1 → ∀ j, j < k + 1 → col ((places ws).getD j 0) ≠ 1) := fun h j hj => by
        rcases Nat.lt_or_ge j k with h2 | h2
        · exact HALL.out j h2
        · obtain rfl : j = k := by omega
          exact h
      clear hro
      generalize (places ws).getD k 0 = p at *
      obtain ⟨p1, p2, p3⟩ := places_mem hpm
      obtain ⟨q1, q2, q3, q4, q5⟩ := not_bad p3
      have hrun := HM2.out.get p (by omega)
      have HPB := Lib.hid p3
      clear p3 hpm
      by_cases hc : col p = 1
      · have HS := Lib.hid (scan_some (HG.out hc))
        rw [hc] at hrun
        have e2 := HROW.out p (by omega)
        have hbM : b ≠ M := cell_ne_map e2 HM2.out
        obtain ⟨n1, n2⟩ := HW.out p
        have HSH := Lib.hid (shade_any P M _ y col (nth ws p) w2 HP2.out HM2.out n1 n2)
        have hwp : IntKind.i64.wrap ((p : Nat) : Int) = ((p : Nat) : Int) := IntWalk.i64_in _ (by omega)
        clear hc HG HNX
        obtain ⟨t1, t2, t3, t4, t5, t6, t7⟩ := HP2.out.f3
        go_wp2_with fail
        refine HSH.out.mono ?_
        rintro e w3 ⟨rfl, hm3, ht3⟩
        have HM3 := Lib.hid hm3; have HT3 := Lib.hid ht3
        have v13 := (World.cell?_of_block (a := ⟨g, 0, none⟩) (ht3.block g (by omega) hgM)).trans v1
        have HR3 := Lib.hid (HROW.out.turn ht3 hbM hlt)
        have HP3 := Lib.hid (ht3.blk HP2.out hPM)
        have hlt3 : b < w3.heap.size := Nat.lt_of_lt_of_le hlt ht3.size
        obtain ⟨x1, x2, x3, x4, x5, x6, x7⟩ := HP3.out.f3
        clear hm3 ht3 v1 v2 v3 v4 v5 v6 v7 e1 e2 hrun HSH t1 t2 t3 t4 t5 t6 t7
        by_cases hf : formOf ws p = 0
        · rw [holds_plain hf] at HS
          have HFM := Lib.hid (form_any ws g b o c' p w3 v13 HR3.out HW.out (by omega) (by omega))
          rw [hf] at HFM
          have HSL := Lib.hid (slots_any ws g b o c' p w3 v13 HR3.out HW.out (by omega) HPB.out hcl)
          have HSI := Lib.hid (ints_slots HR3.out hlt3 HPB.out hcl)
          have HLEN := Lib.hid (slotsL_len HPB.out)
          have hn60 : slotsN ws p ≤ 60 := by unfold slotsN; omega
          clear hf
          go_wp2_with (first
            | (go_at_call 97; refine HFM.out.mono ?_; rintro e w' ⟨rfl, rfl⟩)
            | (go_at_call 98; refine HSL.out.mono ?_; rintro e w' ⟨rfl, m4, rfl⟩))
          have HM4 := Lib.hid (HM3.out.drewN m4); have HT4 := Lib.hid (HT3.out.drewN m4); have HP4 := Lib.hid (HP3.out.drewN m4)
          have HSI4 : Hid (Ints (w3.drewN m4) (slotsA b o c' p) (slotsL ws p)) := HSI.out
          clear x1 x2 x3 x4 x5 x6 x7 HSL HFM v13 HR3 HM3 HT3 HP3 HSI
          generalize w3.drewN m4 = w4 at *
          go_loopw [42] (fun i wr => ∃ j : Nat, i = .int .i64 (j : Int) ∧ j ≤ slotsN ws p ∧ ColAt wr M (shades (shadeC col (nth ws p)) ((slotsL ws p).take j)) ∧ Turned w4 wr (fun k => k = M)) (fun i _ => slotsN ws p - (intOf i).toNat)
          case atStart => exact ⟨0, rfl, Nat.zero_le _, HM4.out, Turned.refl _ _⟩
          case round =>
            obtain ⟨j, rfl, hj, hm, ht⟩ := hrel
            have HMj := Lib.hid hm; have HTj := Lib.hid ht
            have HPj := Lib.hid (ht.blk HP4.out hPM)
            clear hm ht
            by_cases hjl : j < slotsN ws p
            · have hjs : j < (slotsL ws p).length := by rw [HLEN.out]; exact hjl
              obtain ⟨b5, o5, hae, hlt5, r5⟩ := HSI4.out (by omega)
              have e0 := r5 j hjs
              have e1 : wr.cell? ⟨b5, o5 + j, none⟩ = some (.int .i64 (nth (slotsL ws p) j)) := (World.cell?_of_block (a := ⟨b5, o5 + j, none⟩) (HTj.out.block b5 hlt5 (cell_ne_map e0 HM4.out))).trans e0
              rw [hae]
              have HTK := Lib.hid (shades_take (col := shadeC col (nth ws p)) hjs)
              have hsb : -9223372036854775808 ≤ nth (slotsL ws p) j ∧ nth (slotsL ws p) j ≤ 9223372036854775807 := by rw [slotsL_nth HPB.out hjl]; exact HW.out _
              obtain ⟨s1, s2⟩ := hsb
              have HSH := Lib.hid (shade_any P M _ y _ (nth (slotsL ws p) j) wr HPj.out HMj.out s1 s2)
              clear hjs r5 e0 hae
              generalize nth (slotsL ws p) j = s at *
              go_wp2_with (go_at_call 139; refine HSH.out.mono ?_; rintro e w6 ⟨rfl, hm6, ht6⟩; have HM6 := Lib.hid hm6; have HT6 := Lib.hid (HTj.out.trans ht6 (fun k _ h => h)); clear hm6 ht6)
              go_roundw
              case rel => exact ⟨j + 1, by go_num, by omega, by rw [HTK.out]; exact HM6.out, HT6.out⟩
              case measure => simp [intOf]; omega
            · obtain rfl : j = slotsN ws p := by omega
              obtain ⟨x1, x2, x3, x4, x5, x6, x7⟩ := HPj.out.f3
              obtain ⟨n, f, hm, hf⟩ := HMj.out
              have HMI := Lib.hid hm; have HF := Lib.hid hf
              clear hm hf
              go_wp2_with (at_mapUpdate; refine wpList_store rfl _ _ _ 110 3 rfl Try.underlying110 HMI.out rfl ((p : Nat) : Int) rfl (.int .i64 2) rfl (by omega) (by omega) ?_; intro w7 hm7 hgr7; have HM7 := Lib.hid hm7; have HG7 := Lib.hid hgr7; clear hm7 hgr7)
              go_end0
              refine ⟨rfl, ?_, ((HX2.out.trans HT4.out (fun k _ h => h)).trans HTj.out (fun k _ h => h)).grown HG7.out (fun k e => by cases e; exact .inl rfl)⟩
              have := ColAt.put HF.out HM7.out
              rw [List.take_of_length_le (by rw [HLEN.out]; exact Nat.le_refl _)] at this
              rw [HS.out]; exact this
        · rw [holds_other hf] at HS
          have hfb : (formOf ws p == 0) = false := by simpa using hf
          have HFM := Lib.hid (form_any ws g b o c' p w3 v13 HR3.out HW.out (by omega) (by omega))
          obtain ⟨n, f, hm, hf2⟩ := HM3.out
          have HMI := Lib.hid hm; have HF := Lib.hid hf2
          clear hf hm hf2
          generalize formOf ws p = ff at *
          go_wp2_with (first
            | (go_at_call 97; refine HFM.out.mono ?_; rintro e w' ⟨rfl, rfl⟩)
            | (at_mapUpdate; refine wpList_store rfl _ _ _ 110 3 rfl Try.underlying110 HMI.out rfl ((p : Nat) : Int) rfl (.int .i64 2) rfl (by omega) (by omega) ?_; intro w7 hm7 hgr7; have HM7 := Lib.hid hm7; have HG7 := Lib.hid hgr7; clear hm7 hgr7))
          go_end0
          refine ⟨rfl, ?_, (HX2.out.trans HT3.out (fun k _ h => h)).grown HG7.out (fun k e => by cases e; exact .inl rfl)⟩
          rw [HS.out]; exact ColAt.put HF.out HM7.out
      · have hcb : (col p != 1) = true := by simpa using hc
        have HN := Lib.hid (HNX.out hc)
        obtain ⟨x1, x2, x3, x4, x5, x6, x7⟩ := HP2.out.f3
        clear HG HNX hc
        generalize col p = cc at *
        go_wp2_with fail
        go_roundw
        case rel => exact ⟨k + 1, by go_num, by omega, (by first | rfl | trivial), HN.out⟩
        case measure => simp [intOf]; omega
    · obtain rfl : k = (places ws).length := by omega
      have HS := Lib.hid (scan_none (greyAt_none HALL.out))
      go_wp2_with fail
      go_end0
      exact ⟨rfl, by rw [HS.out]; exact HM2.out, HX2.out⟩
end Go.Proofs.Ytjpppdacamhhfaa
