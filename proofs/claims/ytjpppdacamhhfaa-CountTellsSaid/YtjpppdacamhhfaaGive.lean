/- count's given tells a closure each reference that a thing holds. Conditions: a view of a heap that may be; the closure does what it is said to do. -/
import Derived.Test.YtjpppdacamhhfaaCountD
namespace Go.Proofs.Ytjpppdacamhhfaa
open Go.RowKit
set_option linter.unusedVariables false

/-- How a closure ends that was told one more. -/
def ToldEnd (I : List Int → World → Prop) (M : Nat) (L : List Int) (w : World) (e : Ending) (w' : World) : Prop := e = .returned (.tuple #[]) ∧ I L w' ∧ Turned w w' (fun k => k = M)
theorem ToldEnd.mk {I : List Int → World → Prop} {M : Nat} {L : List Int} {w w' : World} (h1 : I L w') (h2 : Turned w w' (fun k => k = M)) : ToldEnd I M L w (.returned (.tuple #[])) w' := ⟨rfl, h1, h2⟩

set_option maxRecDepth 100000 in
set_option maxHeartbeats 4000000 in
theorem given_gen (ws : List Int) (g b o' c : Nat) (w0 w : World) (F M kf : Nat) (cp : Array Value) (I : List Int → World → Prop) (L : List Int) (p : Nat) (hI : I L w) (hL : L.length ≤ 50000000) (hok : OkH ws) (hw : I64 ws) (hp : p ∈ places ws)
    (hvw : ∀ W, Below F w0 W → ViewAt W g ws) (hrw : ∀ W, Below F w0 W → Row W b o' ws ∧ b < W.heap.size) (hcw : ∀ W, Below F w0 W → W.cell? ⟨g, 0, none⟩ = some (.slice (some ⟨b, o', none⟩) ws.length c)) (hcc : ws.length ≤ c)
    (hMl : M < w.heap.size) (hIb : ∀ L W, I L W → Below F w0 W) (hIt : ∀ L W W', I L W → Below W.heap.size W W' → I L W')
    (htell : ∀ (Bf : Nat) (L : List Int) (o : Int) (W : World), I L W → Blk W Bf 126 #[.func (.func kf) #[] cp] → Bf ≠ M → o ∈ holdsL ws p → fitsB ws o = true → L.length ≤ 100000000 →
      Calls Try.prog 151 #[.int .i64 o, .pointer (some ⟨Bf, 0, none⟩)] W (ToldEnd I M (L ++ [o]) W)) :
    Calls Try.prog 109 #[.pointer (some ⟨g, 0, none⟩), .int .i64 p, .func (.func kf) #[] cp] w (ToldEnd I M (L ++ holdsL ws p) w) := by
  have hq2 : ws.length ≤ 2000 := hok.most
  obtain ⟨p2, pl, pb⟩ := places_mem hp
  obtain ⟨m1, m2, m3, m4, m5⟩ := not_bad pb
  have hb1 : Below w.heap.size w (w.alloc (.cells #[.func (.func kf) #[] cp] 126)) := (Below.refl _ _).alloc (Nat.le_refl _) _
  have HB1 := Lib.hid (Blk.new w 126 #[.func (.func kf) #[] cp])
  have hs1 := hIt _ _ _ hI hb1
  have HT1 := Lib.hid ((Turned.refl w (fun k => k = M)).alloc (.cells #[.func (.func kf) #[] cp] 126))
  have hbe1 := hIb _ _ hs1
  have hc0 := hcw _ hbe1
  have hr0 := (hrw _ hbe1).1 p pl
  have HS1 := Lib.hid hs1
  have hcf := class_fits hok hp
  have HCF := Lib.hid hcf
  have HSF := Lib.hid (fun k hf (hk : k < slotsN ws p) => slot_fits hok hp (k := k) hf hk)
  have HVW := Lib.hid hvw; have HRW := Lib.hid hrw; have HCW := Lib.hid hcw; have HW := Lib.hid hw; have HBAD := Lib.hid pb
  have HIB := Lib.hid hIb; have HIT := Lib.hid hIt; have HTELL := Lib.hid htell
  have hsd : ((slotsN ws p : Nat) : Int) = nth ws (p + 2) / 4 := by have : slotsN ws p = (nth ws (p + 2) / 4).toNat := rfl; omega
  have hsl2 : slotsN ws p ≤ 2000 := by omega
  have hH : holdsL ws p = nth ws p :: (if formOf ws p = 0 then slotsL ws p else []) := rfl
  have HH := Lib.hid hH
  have HIN0 : Hid (nth ws p ∈ holdsL ws p) := by show _ ∈ _; rw [hH]; exact List.mem_cons_self
  have HINS : Hid (∀ j, formOf ws p = 0 → j < slotsN ws p → nth ws (p + 3 + j) ∈ holdsL ws p) := fun j hf hj => by
    rw [hH, if_pos hf]; exact List.mem_cons_of_mem _ ((slotsL_mem pb).2 ⟨j, hj, rfl⟩)
  clear hI hok hp hvw hrw hcw hw pb hcf hb1 hsd hIb hIt htell hs1 hbe1 hH
  have hmf : ∀ (fn : Fn) (first cap : Array Value) (W : World), (Instr.makeFunc fn first cap).run Try.prog W = .ok (.func fn first cap) W := fun _ _ _ _ => rfl
  go_enter Try.func109, Try.ntmps109
  go_wp2_with fail
  refine (HTELL.out w.heap.size L (nth ws p) _ HS1.out HB1.out (by omega) HIN0.out HCF.out (by omega)).mono ?_
  rintro e w2 ⟨rfl, hs2, ht2⟩
  have HS2 := Lib.hid hs2
  have HB2 := Lib.hid (ht2.blk HB1.out (by omega))
  have HT2 := Lib.hid (HT1.out.trans ht2 (fun k _ h => h))
  generalize hBf : w.heap.size = Bf at *
  have HBM : Hid (Bf ≠ M) := by show _ ≠ _; omega
  have HHBf := Lib.hid hBf
  clear hs2 ht2 hc0 hr0 HS1 HB1 hBf HT1 hMl
  go_wp2_with fail
  refine (formv_any (HVW.out _ (HIB.out _ _ HS2.out)) HW.out (by omega) p (by omega)).mono ?_
  rintro e w' ⟨rfl, rfl⟩
  by_cases hf : formOf ws p = 0
  · have hfb : (formOf ws p == 0) = true := by simpa using hf
    have HF : Hid (L ++ holdsL ws p = (L ++ [nth ws p]) ++ slotsL ws p) := by show _ = _; rw [HH.out, if_pos hf, take_app]
    have HFO := Lib.hid hf
    clear hf
    go_wp2_with fail
    refine (slots_any ws g b o' c p w2 (HCW.out _ (HIB.out _ _ HS2.out)) (HRW.out _ (HIB.out _ _ HS2.out)).1 HW.out (by omega) HBAD.out hcc).mono ?_
    rintro e w3 ⟨rfl, m, rfl⟩
    have hin : ∀ W, Below F w0 W → Ints W (slotsA b o' c p) (slotsL ws p) := fun W h => ints_slots (HRW.out W h).1 (HRW.out W h).2 HBAD.out hcc
    have HIN := Lib.hid hin
    have HSL := Lib.hid (slotsL_len HBAD.out)
    have HNT := Lib.hid (fun k (hk : k < slotsN ws p) => slotsL_nth HBAD.out hk)
    have HS3 := Lib.hid (HIT.out _ _ _ HS2.out (belowN _ _ m))
    have HB3 := Lib.hid (HB2.out.below (belowN w2.heap.size _ m) HB2.out.lt)
    have HT3 := Lib.hid (HT2.out.drewN m)
    clear hin
    generalize slotsA b o' c p = A9 at *
    go_wp2_with fail
    go_loopw [27] (fun i wr => ∃ j : Nat, i = .int .i64 j ∧ j ≤ slotsN ws p ∧ I ((L ++ [nth ws p]) ++ (slotsL ws p).take j) wr ∧ Blk wr Bf 126 #[.func (.func kf) #[] cp] ∧ Turned w wr (fun k => k = M)) (fun i _ => slotsN ws p - (intOf i).toNat)
    case atStart => exact ⟨0, rfl, Nat.zero_le _, by rw [List.take_zero, List.append_nil]; exact HS3.out, HB3.out, HT3.out⟩
    case round =>
      obtain ⟨j, rfl, hj, hs, hb, ht⟩ := hrel
      have HS4 := Lib.hid hs; have HB4 := Lib.hid hb; have HT4 := Lib.hid ht
      clear hs hb ht
      by_cases hjl : j < slotsN ws p
      · obtain ⟨b1, o1, rfl, -, r1⟩ := HIN.out _ (HIB.out _ _ HS4.out) (by have := HSL.out; omega)
        have e1 := r1 j (by have := HSL.out; omega)
        rw [HNT.out j hjl] at e1
        have hcf := HSF.out j (by rw [HFO.out]; decide) hjl
        have HCF4 := Lib.hid hcf
        have hll : (L ++ [nth ws p] ++ (slotsL ws p).take j).length ≤ 100000000 := by
          have := List.length_take_le j (slotsL ws p)
          simp only [List.length_append, List.length_singleton]; omega
        have HLL := Lib.hid hll
        have hTK := Lib.hid (take_slot (xs := slotsL ws p) (k := j) (by have := HSL.out; omega))
        clear r1 hcf hll
        go_wp2_with fail
        refine (HTELL.out Bf _ (nth ws (p + 3 + j)) _ HS4.out HB4.out HBM.out (HINS.out j HFO.out hjl) HCF4.out HLL.out).mono ?_
        rintro e w6 ⟨rfl, hs6, ht6⟩
        have HS6 := Lib.hid hs6
        have HB6 := Lib.hid (ht6.blk HB4.out HBM.out)
        have HT6 := Lib.hid (HT4.out.trans ht6 (fun k _ h => h))
        clear hs6 ht6
        go_wp2_with fail
        go_roundw
        case rel =>
          refine ⟨j + 1, by go_num, by omega, ?_, HB6.out, HT6.out⟩
          have h9 := HS6.out
          rw [List.append_assoc, ← HNT.out j hjl, ← hTK.out] at h9
          exact h9
        case measure => simp [intOf]; omega
      · obtain rfl : j = slotsN ws p := by omega
        have h9 := HS4.out
        rw [← HSL.out, List.take_length, ← HF.out] at h9
        have H9 := Lib.hid h9
        clear h9
        go_wp2_with fail
        go_end0
        exact .mk H9.out HT4.out
  · have hfb : (formOf ws p == 0) = false := by simpa using hf
    have HF : Hid (L ++ holdsL ws p = L ++ [nth ws p]) := by show _ = _; rw [HH.out, if_neg hf]
    clear hf
    go_wp2_with fail
    go_end0
    exact .mk (by rw [HF.out]; exact HS2.out) HT2.out
end Go.Proofs.Ytjpppdacamhhfaa
