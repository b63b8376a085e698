/- count's given, where it counts. Conditions: a view of a heap that may be. -/
import Derived.Test.YtjpppdacamhhfaaCountB
namespace Go.Proofs.Ytjpppdacamhhfaa
open Go.RowKit
set_option linter.unusedVariables false

theorem take_app {L : List Int} {a : Int} {l : List Int} : L ++ (a :: l) = (L ++ [a]) ++ l := by simp

set_option maxRecDepth 100000 in
set_option maxHeartbeats 4000000 in
theorem given_any (ws : List Int) (g b o' c : Nat) (w0 w : World) (F Bx M : Nat) (L : List Int) (p : Nat) (hS : CntS w0 w F Bx M L) (hL : L.length ≤ 50000000) (hok : OkH ws) (hw : I64 ws) (hp : p ∈ places ws)
    (hvw : ∀ W, Below F w0 W → ViewAt W g ws) (hrw : ∀ W, Below F w0 W → Row W b o' ws ∧ b < W.heap.size) (hcw : ∀ W, Below F w0 W → W.cell? ⟨g, 0, none⟩ = some (.slice (some ⟨b, o', none⟩) ws.length c)) (hcc : ws.length ≤ c) :
    Calls Try.prog 109 #[.pointer (some ⟨g, 0, none⟩), .int .i64 p, cntV Bx] w fun e w' => e = .returned (.tuple #[]) ∧ CntS w0 w' F Bx M (L ++ holdsL ws p) := by
  have hq2 : ws.length ≤ 2000 := hok.most
  obtain ⟨p2, pl, pb⟩ := places_mem hp
  obtain ⟨m1, m2, m3, m4, m5⟩ := not_bad pb
  have hb1 : Below w.heap.size w (w.alloc (.cells #[cntV Bx] 126)) := (Below.refl _ _).alloc (Nat.le_refl _) _
  have HB1 := Lib.hid (Blk.new w 126 #[cntV Bx])
  have HS1 := Lib.hid (hS.turn hb1)
  have hMlt : M < w.heap.size := by obtain ⟨n, D, hm, _⟩ := hS.map_; exact hm.lt
  have HML := Lib.hid hMlt
  have hc0 := hcw _ HS1.out.below
  have hr0 := (hrw _ HS1.out.below).1 p pl
  have hcf := class_fits hok hp
  have HCF := Lib.hid hcf
  have HSF := Lib.hid (fun k hf (hk : k < slotsN ws p) => slot_fits hok hp (k := k) hf hk)
  have HVW := Lib.hid hvw; have HRW := Lib.hid hrw; have HCW := Lib.hid hcw; have HW := Lib.hid hw; have HBAD := Lib.hid pb
  have hsd : ((slotsN ws p : Nat) : Int) = nth ws (p + 2) / 4 := by have : slotsN ws p = (nth ws (p + 2) / 4).toNat := rfl; omega
  have hsl2 : slotsN ws p ≤ 2000 := by omega
  clear hS hok hp hvw hrw hcw hw pb hcf hb1 hMlt hsd
  have hmf : ∀ (fn : Fn) (first cap : Array Value) (W : World), (Instr.makeFunc fn first cap).run Try.prog W = .ok (.func fn first cap) W := fun _ _ _ _ => rfl
  go_enter Try.func109, Try.ntmps109
  go_wp2_with fail
  refine (tell1_any ws w0 _ F Bx M w.heap.size L (nth ws p) HS1.out HB1.out (by omega) HCF.out).mono ?_
  rintro e w2 ⟨rfl, hs2, ht2⟩
  have HS2 := Lib.hid hs2
  have HB2 := Lib.hid (ht2.blk HB1.out (by have := HML.out; omega))
  have hH : holdsL ws p = nth ws p :: (if formOf ws p = 0 then slotsL ws p else []) := rfl
  have HH := Lib.hid hH
  generalize hBf : w.heap.size = Bf at *
  have HBM : Hid (Bf ≠ M) := by have := HML.out; show _ ≠ _; omega
  have HHBf := Lib.hid hBf
  clear hs2 ht2 hc0 hr0 hH HS1 HB1 hBf
  go_wp2_with fail
  refine (formv_any (HVW.out _ HS2.out.below) HW.out (by omega) p (by omega)).mono ?_
  rintro e w' ⟨rfl, rfl⟩
  by_cases hf : formOf ws p = 0
  · have hfb : (formOf ws p == 0) = true := by simpa using hf
    have HF : Hid (L ++ holdsL ws p = (L ++ [nth ws p]) ++ slotsL ws p) := by show _ = _; rw [HH.out, if_pos hf, take_app]
    have HFO := Lib.hid hf
    clear hf
    go_wp2_with fail
    refine (slots_any ws g b o' c p w2 (HCW.out _ HS2.out.below) (HRW.out _ HS2.out.below).1 HW.out (by omega) HBAD.out hcc).mono ?_
    rintro e w3 ⟨rfl, m, rfl⟩
    have hin : ∀ W, Below F w0 W → Ints W (slotsA b o' c p) (slotsL ws p) := fun W h => ints_slots (HRW.out W h).1 (HRW.out W h).2 HBAD.out hcc
    have HIN := Lib.hid hin
    have HSL := Lib.hid (slotsL_len HBAD.out)
    have HNT := Lib.hid (fun k (hk : k < slotsN ws p) => slotsL_nth HBAD.out hk)
    have HS3 := Lib.hid (HS2.out.turn (belowN _ _ m))
    have HB3 := Lib.hid (HB2.out.below (belowN w2.heap.size _ m) HB2.out.lt)
    clear hin
    generalize slotsA b o' c p = A9 at *
    go_wp2_with fail
    go_loopw [27] (fun i wr => ∃ j : Nat, i = .int .i64 j ∧ j ≤ slotsN ws p ∧ CntS w0 wr F Bx M ((L ++ [nth ws p]) ++ (slotsL ws p).take j) ∧ Blk wr Bf 126 #[cntV Bx]) (fun i _ => slotsN ws p - (intOf i).toNat)
    case atStart => exact ⟨0, rfl, Nat.zero_le _, by rw [List.take_zero, List.append_nil]; exact HS3.out, HB3.out⟩
    case round =>
      obtain ⟨j, rfl, hj, hs, hb⟩ := hrel
      have HS4 := Lib.hid hs; have HB4 := Lib.hid hb
      clear hs hb
      by_cases hjl : j < slotsN ws p
      · obtain ⟨b1, o1, rfl, -, r1⟩ := HIN.out _ HS4.out.below (by have := HSL.out; omega)
        have e1 := r1 j (by have := HSL.out; omega)
        rw [HNT.out j hjl] at e1
        have hcf := HSF.out j (by rw [HFO.out]; decide) hjl
        have HCF4 := Lib.hid hcf
        have hll : (L ++ [nth ws p] ++ (slotsL ws p).take j).length ≤ 100000000 := by
          have := List.length_take_le j (slotsL ws p)
          simp only [List.length_append, List.length_singleton]; omega
        have hTK := Lib.hid (take_slot (xs := slotsL ws p) (k := j) (by have := HSL.out; omega))
        clear r1 hcf
        go_wp2_with fail
        refine (tell1_any ws w0 _ F Bx M Bf _ (nth ws (p + 3 + j)) HS4.out HB4.out hll HCF4.out).mono ?_
        rintro e w6 ⟨rfl, hs6, ht6⟩
        have HS6 := Lib.hid hs6
        have HB6 := Lib.hid (ht6.blk HB4.out HBM.out)
        clear hs6 ht6
        go_wp2_with fail
        go_roundw
        case rel =>
          refine ⟨j + 1, by go_num, by omega, ?_, HB6.out⟩
          have h9 := HS6.out
          rw [List.append_assoc, ← HNT.out j hjl, ← hTK.out] at h9
          exact h9
        case measure => simp [intOf]; omega
      · obtain rfl : j = slotsN ws p := by omega
        have h9 := HS4.out
        rw [← HSL.out, List.take_length, ← HF.out] at h9
        have H9 := Lib.hid h9
        clear h9
        go_wp2_with fail
        go_end0
        exact ⟨rfl, H9.out⟩
  · have hfb : (formOf ws p == 0) = false := by simpa using hf
    have HF : Hid (L ++ holdsL ws p = L ++ [nth ws p]) := by show _ = _; rw [HH.out, if_neg hf]
    clear hf
    go_wp2_with fail
    go_end0
    exact ⟨rfl, by rw [HF.out]; exact HS2.out⟩
end Go.Proofs.Ytjpppdacamhhfaa
