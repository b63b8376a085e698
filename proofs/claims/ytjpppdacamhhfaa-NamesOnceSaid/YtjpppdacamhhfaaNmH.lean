/- gessoref7.Seat, gessoref7.Find. Conditions: a table of a heap that may be, a text of at most 60 bytes. -/
import Derived.Test.YtjpppdacamhhfaaNmG
namespace Go.Proofs.Ytjpppdacamhhfaa
open Go.RowKit
set_option linter.unusedVariables false

theorem bat_get {tx : ByteArray} {j : Nat} (h : j < tx.size) : (tx[j]'h).toNat = bat tx j := by
  unfold bat
  have h' : j < tx.data.size := h
  rw [Array.getElem?_eq_getElem h']; rfl
theorem hitB_split {ws : List Int} {tx : ByteArray} {s : Int} (h : s ≠ 0) : hitB ws tx s = ((txtS ws s).toList == tx.toList) := by
  unfold hitB
  have : (s == 0) = false := by simpa using h
  rw [this, Bool.false_or]

set_option maxRecDepth 100000 in
set_option maxHeartbeats 4000000 in
theorem rseat_any (ws : List Int) (b o c : Nat) (x : Int) (tx : ByteArray) (w : World) (hr : Row w b o ws) (hlt : b < w.heap.size) (hcap : ws.length ≤ c) (hok : OkH ws) (hw : I64 ws) (htab : tabB ws x = true) (htx : tx.size ≤ 60) (h1 : -9223372036854775808 ≤ x) (h2 : x ≤ 9223372036854775807) :
    Calls Try.prog 138 #[.agg #[.slice (some ⟨b, o, none⟩) ws.length c], .int .i64 x, .string tx] w fun e w' => e = .returned (.int .i64 (seatF ws tx (pcl x))) ∧ Below w.heap.size w w' := by
  have hx0 : Below w.heap.size w (w.alloc (.cells #[.slice (some ⟨b, o, none⟩) ws.length c] 33)) := (Below.refl _ _).alloc (Nat.le_refl _) _
  have HX0 := Lib.hid hx0
  have HR := Lib.hid (hr.below hx0 hlt)
  have HB0 := Lib.hid (Blk.new w 33 #[.slice (some ⟨b, o, none⟩) ws.length c])
  have hlt0 : b < (w.alloc (.cells #[.slice (some ⟨b, o, none⟩) ws.length c] 33)).heap.size := by rw [World.size_alloc]; omega
  have HOK := Lib.hid hok; have HW := Lib.hid hw; have HT := Lib.hid htab
  obtain ⟨hth, hfm, hsl⟩ := tab_parts htab
  have hpb := (places_mem (q := pcl x) (isTh_mem hth).1).2.2
  have HLEN := Lib.hid (slotsL_len hpb)
  have hn60 : slotsN ws (pcl x) ≤ 60 := by have := not_bad hpb; unfold slotsN; omega
  have HLK := Lib.hid (lkR_yes hth)
  have HSS := Lib.hid (bsum_le tx)
  clear hx0 hr hok hw htab hth hfm hpb
  go_enter Try.func138, Try.ntmps138
  go_wp2_with fail
  generalize (w.alloc (.cells #[.slice (some ⟨b, o, none⟩) ws.length c] 33)) = w1 at *
  refine ((rlook_any ws b o c x w1 HR.out hlt0 hcap HW.out HOK.out h1 h2).mono fun e w' h => lookU_R h).mono ?_
  rintro e w2 ⟨hb2, A2, c2, rfl, ho2⟩
  have HX2 := Lib.hid (HX0.out.trans (hb2.mono HX0.out.size))
  have HR2 := Lib.hid (HR.out.below hb2 hlt0); have HB2 := Lib.hid (HB0.out.below hb2 HB0.out.lt)
  have hlt2 : b < w2.heap.size := Nat.lt_of_lt_of_le hlt0 hb2.size
  clear hb2
  rw [HLK.out] at ho2 ⊢
  dsimp only at ho2 ⊢
  rw [HLEN.out] at ho2 ⊢
  have hi2 := (own_ints9b ho2).1
  have hx3 : Below w2.heap.size w2 (w2.alloc (.cells #[.int .i64 (nth ws (pcl x)), .int .i64 (nth ws (pcl x + 1)), .int .i64 (formOf ws (pcl x)), .slice A2 (slotsN ws (pcl x)) c2] 48)) := (Below.refl _ _).alloc (Nat.le_refl _) _
  have HX3 := Lib.hid (HX2.out.trans (hx3.mono HX2.out.size))
  have HF3 := Lib.hid (Blk.new w2 48 #[.int .i64 (nth ws (pcl x)), .int .i64 (nth ws (pcl x + 1)), .int .i64 (formOf ws (pcl x)), .slice A2 (slotsN ws (pcl x)) c2])
  have HI3 := Lib.hid (hi2.below hx3)
  have HR3 := Lib.hid (HR2.out.below hx3 hlt2); have HB3 := Lib.hid (HB2.out.below hx3 HB2.out.lt)
  have hlt3 : b < (w2.alloc (.cells #[.int .i64 (nth ws (pcl x)), .int .i64 (nth ws (pcl x + 1)), .int .i64 (formOf ws (pcl x)), .slice A2 (slotsN ws (pcl x)) c2] 48)).heap.size := by rw [World.size_alloc]; omega
  clear ho2 hi2 hx3 HR HR2 HB2
  unfold thingV
  go_wp2_with fail
  generalize (w2.alloc (.cells #[.int .i64 (nth ws (pcl x)), .int .i64 (nth ws (pcl x + 1)), .int .i64 (formOf ws (pcl x)), .slice A2 (slotsN ws (pcl x)) c2] 48)) = w3 at *
  generalize hF2 : w2.heap.size = F at *
  have HFE := Lib.hid hF2
  clear hF2 HX2
  go_loopw [10, 9] (fun i v wr => ∃ j : Nat, i = .int .i64 (j : Int) ∧ j ≤ tx.size ∧ v = .int .i64 (bsum tx j : Int) ∧ w3 = wr) (fun i _ _ => tx.size - (intOf i).toNat)
  case atStart => exact ⟨0, rfl, Nat.zero_le _, rfl, rfl⟩
  case round =>
    obtain ⟨j, rfl, hj, rfl, rfl⟩ := hrel
    by_cases hjl : j < tx.size
    · have hbt := bat_get hjl
      have hb := bat_le tx j
      have hs := HSS.out j
      have hwb : IntKind.i64.wrap ((bat tx j : Nat) : Int) = ((bat tx j : Nat) : Int) := IntWalk.i64_in _ (by omega)
      have hwp : IntKind.i64.wrap ((bsum tx j : Nat) + (bat tx j : Nat) : Int) = ((bsum tx (j + 1) : Nat) : Int) := by
        rw [IntWalk.i64_in _ (by omega)]; show _ = ((bsum tx j + bat tx j : Nat) : Int); omega
      go_wp2_with fail
      go_roundw
      case rel => exact ⟨j + 1, by go_num, by omega, (by first | rfl | (show _ = _; unfold bsum; go_num)), (by first | rfl | trivial)⟩
      case measure => simp [intOf]; omega
    · obtain rfl : j = tx.size := by omega
      clear hj
      have hs := HSS.out tx.size
      go_wp2_with fail
      go_loopw [11] (fun i wr => ∃ j : Nat, i = .int .i64 (j : Int) ∧ j ≤ slotsN ws (pcl x) ∧ Below w3.heap.size w3 wr ∧ ∀ m, m < j → hitB ws tx (nth (slotsL ws (pcl x)) (atN tx (slotsN ws (pcl x)) m)) = false) (fun i _ => slotsN ws (pcl x) - (intOf i).toNat)
      case atStart => exact ⟨0, rfl, Nat.zero_le _, Below.refl _ _, fun k hk => absurd hk (Nat.not_lt_zero _)⟩
      case round =>
        obtain ⟨j, rfl, hj, hb, hall⟩ := hrel
        have HBW := Lib.hid hb; have HALL := Lib.hid hall
        have hFF := HF3.out.below hb HF3.out.lt
        have hBB := HB3.out.below hb HB3.out.lt
        obtain ⟨z1, z2, z3, z4, z5, z6, z7, z8, z9⟩ := hFF.f4
        obtain ⟨u1, u2, u3⟩ := hBB.f1
        clear hall hFF hBB
        by_cases hjl : j < slotsN ws (pcl x)
        · have hat : atN tx (slotsN ws (pcl x)) j < slotsN ws (pcl x) := Nat.mod_lt _ (by omega)
          have hate : (bsum tx tx.size + j) % slotsN ws (pcl x) = atN tx (slotsN ws (pcl x)) j := rfl
          obtain ⟨b5, o5, rfl, -, r5⟩ := (HI3.out.below hb) (by rw [HLEN.out]; omega)
          have e1 := r5 (atN tx (slotsN ws (pcl x)) j) (by rw [HLEN.out]; exact hat)
          have HTS := Lib.hid (tab_slot HT.out HOK.out hat)
          have HSE := Lib.hid (fun hh => seatF_hit (tx := tx) hjl HALL.out hh)
          have hsb : -9223372036854775808 ≤ nth (slotsL ws (pcl x)) (atN tx (slotsN ws (pcl x)) j) ∧ nth (slotsL ws (pcl x)) (atN tx (slotsN ws (pcl x)) j) ≤ 9223372036854775807 := by
            have hpb := (places_mem (q := pcl x) (isTh_mem (tab_parts HT.out).1).1).2.2
            rw [slotsL_nth hpb hat]; exact HW.out _
          have HNX : Hid (hitB ws tx (nth (slotsL ws (pcl x)) (atN tx (slotsN ws (pcl x)) j)) = false → ∀ m, m < j + 1 → hitB ws tx (nth (slotsL ws (pcl x)) (atN tx (slotsN ws (pcl x)) m)) = false) := fun h k hk => by
            rcases Nat.lt_or_ge k j with hk2 | hk2
            · exact HALL.out k hk2
            · obtain rfl : k = j := by omega
              exact h
          have HRW := Lib.hid (HR3.out.below hb hlt3)
          have hltw : b < wr.drew.heap.size := Nat.lt_of_lt_of_le hlt3 hb.size
          have hrm : (((bsum tx tx.size : Nat) : Int) + ((j : Nat) : Int)) % ((slotsN ws (pcl x) : Nat) : Int) = ((atN tx (slotsN ws (pcl x)) j : Nat) : Int) := by
            rw [← hate]; push_cast; rfl
          clear r5 hate hb
          generalize nth (slotsL ws (pcl x)) (atN tx (slotsN ws (pcl x)) j) = s at *
          generalize atN tx (slotsN ws (pcl x)) j = q at *
          have hwq : IntKind.i64.wrap ((q : Nat) : Int) = ((q : Nat) : Int) := IntWalk.i64_in _ (by omega)
          have HXZ := Lib.hid (HX3.out.trans (HBW.out.mono HX3.out.size))
          by_cases hs0 : s = 0
          · subst hs0
            have HE := Lib.hid (HSE.out rfl)
            clear HSE HNX
            go_wp2_with fail
            rw [HE.out]
            exact bodyPost_ret (v := .int .i64 (q : Int)) (by simp [results, Try.results138, go_sem, hrm]) rfl ⟨rfl, HXZ.out⟩
          · have hsf : (s == 0) = false := by simpa using hs0
            obtain ⟨ht1, ht2⟩ := tslot_cases HTS.out hs0
            have HT1 := Lib.hid ht1; have HT2 := Lib.hid ht2
            rw [hitB_split hs0] at HSE HNX
            clear ht1 ht2 hs0
            go_wp2_with fail
            go_still_tail 6, (by kernel_rfl)
            change wpList _ _ _ _ _ (World.drew wr)
            go_wp2_with fail
            refine (rtext_any ws b o c s wr.drew HRW.out hltw hcap HOK.out HW.out HT1.out HT2.out hsb.1 hsb.2).mono ?_
            rintro e w5 ⟨rfl, hb5⟩
            have hb5' : Below wr.heap.size wr w5 := below_of_drew hb5
            have HB6 := Lib.hid (HBW.out.trans (hb5'.mono HBW.out.size))
            clear hb5 hb5' u1 u2 u3 z1 z2 z3 z4 z5 z6 z7 z8 z9 e1
            generalize txtS ws s = y at *
            cases hy : (y.toList == tx.toList)
            · have HT := Lib.hid (HNX.out hy)
              clear HSE HNX
              go_wp2_with fail
              go_roundw
              case rel => exact ⟨j + 1, by go_num, by omega, HB6.out, HT.out⟩
              case measure => simp [intOf]; omega
            · have HE := Lib.hid (HSE.out hy)
              clear HSE HNX
              go_wp2_with fail
              rw [HE.out]
              exact bodyPost_ret (v := .int .i64 (q : Int)) (by simp [results, Try.results138, go_sem]) rfl ⟨rfl, HX3.out.trans (HB6.out.mono HX3.out.size)⟩
        · obtain rfl : j = slotsN ws (pcl x) := by omega
          have HE := Lib.hid (seatF_none (ws := ws) (tx := tx) (p := pcl x) HALL.out)
          have HXZ := Lib.hid (HX3.out.trans (HBW.out.mono HX3.out.size))
          clear hb
          go_wp2_with fail
          rw [HE.out]
          exact bodyPost_ret (v := .int .i64 (-1)) (by simp [results, Try.results138, go_sem]) rfl ⟨rfl, HXZ.out⟩

set_option maxRecDepth 100000 in
set_option maxHeartbeats 4000000 in
theorem rfind_any (ws : List Int) (b o c : Nat) (x : Int) (tx : ByteArray) (w : World) (hr : Row w b o ws) (hlt : b < w.heap.size) (hcap : ws.length ≤ c) (hok : OkH ws) (hw : I64 ws) (htab : tabB ws x = true) (htx : tx.size ≤ 60) (h1 : -9223372036854775808 ≤ x) (h2 : x ≤ 9223372036854775807) :
    Calls Try.prog 83 #[.agg #[.slice (some ⟨b, o, none⟩) ws.length c], .int .i64 x, .string tx] w fun e w' => e = .returned (.tuple #[.int .i64 (findT ws x tx).1, .int .i64 (findT ws x tx).2]) ∧ Below w.heap.size w w' := by
  have hx0 : Below w.heap.size w (w.alloc (.cells #[.slice (some ⟨b, o, none⟩) ws.length c] 33)) := (Below.refl _ _).alloc (Nat.le_refl _) _
  have HX0 := Lib.hid hx0
  have HR := Lib.hid (hr.below hx0 hlt)
  have HB0 := Lib.hid (Blk.new w 33 #[.slice (some ⟨b, o, none⟩) ws.length c])
  have hlt0 : b < (w.alloc (.cells #[.slice (some ⟨b, o, none⟩) ws.length c] 33)).heap.size := by rw [World.size_alloc]; omega
  have HOK := Lib.hid hok; have HW := Lib.hid hw; have HT := Lib.hid htab
  obtain ⟨hth, hfm, hsl⟩ := tab_parts htab
  have hpb := (places_mem (q := pcl x) (isTh_mem hth).1).2.2
  have HLEN := Lib.hid (slotsL_len hpb)
  have hn60 : slotsN ws (pcl x) ≤ 60 := by have := not_bad hpb; unfold slotsN; omega
  have HLK := Lib.hid (lkR_yes hth)
  clear hx0 hr hok hw htab hth hfm hpb
  go_enter Try.func83, Try.ntmps83
  go_wp2_with fail
  generalize (w.alloc (.cells #[.slice (some ⟨b, o, none⟩) ws.length c] 33)) = w1 at *
  refine ((rlook_any ws b o c x w1 HR.out hlt0 hcap HW.out HOK.out h1 h2).mono fun e w' h => lookU_R h).mono ?_
  rintro e w2 ⟨hb2, A2, c2, rfl, ho2⟩
  have HX2 := Lib.hid (HX0.out.trans (hb2.mono HX0.out.size))
  have HR2 := Lib.hid (HR.out.below hb2 hlt0); have HB2 := Lib.hid (HB0.out.below hb2 HB0.out.lt)
  have hlt2 : b < w2.heap.size := Nat.lt_of_lt_of_le hlt0 hb2.size
  clear hb2
  rw [HLK.out] at ho2 ⊢
  dsimp only at ho2 ⊢
  rw [HLEN.out] at ho2 ⊢
  have hi2 := (own_ints9b ho2).1
  have hx3 : Below w2.heap.size w2 (w2.alloc (.cells #[.int .i64 (nth ws (pcl x)), .int .i64 (nth ws (pcl x + 1)), .int .i64 (formOf ws (pcl x)), .slice A2 (slotsN ws (pcl x)) c2] 48)) := (Below.refl _ _).alloc (Nat.le_refl _) _
  have HX3 := Lib.hid (HX2.out.trans (hx3.mono HX2.out.size))
  have HF3 := Lib.hid (Blk.new w2 48 #[.int .i64 (nth ws (pcl x)), .int .i64 (nth ws (pcl x + 1)), .int .i64 (formOf ws (pcl x)), .slice A2 (slotsN ws (pcl x)) c2])
  have HI3 := Lib.hid (hi2.below hx3)
  have HR3 := Lib.hid (HR2.out.below hx3 hlt2); have HB3 := Lib.hid (HB2.out.below hx3 HB2.out.lt)
  have hlt3 : b < (w2.alloc (.cells #[.int .i64 (nth ws (pcl x)), .int .i64 (nth ws (pcl x + 1)), .int .i64 (formOf ws (pcl x)), .slice A2 (slotsN ws (pcl x)) c2] 48)).heap.size := by rw [World.size_alloc]; omega
  obtain ⟨u1, u2, u3⟩ := HB3.out.f1
  clear ho2 hi2 hx3 HR HR2 HB2
  unfold thingV
  go_wp2_with fail
  generalize (w2.alloc (.cells #[.int .i64 (nth ws (pcl x)), .int .i64 (nth ws (pcl x + 1)), .int .i64 (formOf ws (pcl x)), .slice A2 (slotsN ws (pcl x)) c2] 48)) = w3 at *
  generalize hF2 : w2.heap.size = F at *
  have HFE := Lib.hid hF2
  clear hF2 HX2
  refine (rseat_any ws b o c x tx w3 HR3.out hlt3 hcap HOK.out HW.out HT.out htx h1 h2).mono ?_
  rintro e w4 ⟨rfl, hb4⟩
  have HX4 := Lib.hid (HX3.out.trans (hb4.mono HX3.out.size))
  have hF4 := HF3.out.below hb4 HF3.out.lt
  obtain ⟨z1, z2, z3, z4, z5, z6, z7, z8, z9⟩ := hF4.f4
  have hi4 := HI3.out.below hb4
  clear hF4 hb4
  have HFT : Hid (findT ws x tx = if seatF ws tx (pcl x) < 0 ∨ nth (slotsL ws (pcl x)) (seatF ws tx (pcl x)).toNat = 0 then (0, 10) else (nth (slotsL ws (pcl x)) (seatF ws tx (pcl x)).toNat, 0)) := rfl
  rcases seatF_range (ws := ws) (tx := tx) (p := pcl x) hsl with e0 | ⟨k, hk, e0, -⟩
  · rw [e0] at HFT ⊢
    have HE : Hid (findT ws x tx = (0, 10)) := by show _ = _; rw [HFT.out]; rfl
    clear HFT e0 hi4
    go_wp2_with fail
    rw [HE.out]
    exact bodyPost_ret (v := .tuple #[.int .i64 0, .int .i64 10]) (by simp [results, Try.results83, go_sem]) rfl ⟨rfl, HX4.out⟩
  · rw [e0, Int.toNat_natCast] at HFT
    rw [e0]
    obtain ⟨b5, o5, rfl, -, r5⟩ := hi4 (by rw [HLEN.out]; omega)
    have e1 := r5 k (by rw [HLEN.out]; exact hk)
    have hwk : IntKind.i64.wrap ((k : Nat) : Int) = ((k : Nat) : Int) := IntWalk.i64_in _ (by omega)
    generalize nth (slotsL ws (pcl x)) k = s at *
    clear e0 r5 hi4
    by_cases hs0 : s = 0
    · have HE : Hid (findT ws x tx = (0, 10)) := by show _ = _; rw [HFT.out, if_pos (.inr hs0)]
      subst hs0
      clear HFT
      go_wp2_with fail
      rw [HE.out]
      exact bodyPost_ret (v := .tuple #[.int .i64 0, .int .i64 10]) (by simp [results, Try.results83, go_sem]) rfl ⟨rfl, HX4.out⟩
    · have HE : Hid (findT ws x tx = (s, 0)) := by show _ = _; rw [HFT.out, if_neg (by rintro (h | h); omega; exact hs0 h)]
      have hsb : (s == 0) = false := by simpa using hs0
      clear HFT hs0
      go_wp2_with fail
      rw [HE.out]
      exact bodyPost_ret (v := .tuple #[.int .i64 s, .int .i64 0]) (by simp [results, Try.results83, go_sem]) rfl ⟨rfl, HX4.out⟩
end Go.Proofs.Ytjpppdacamhhfaa
