/- What ImageReads' code computes. Conditions: bytes. -/
import Derived.Test.YtjpppdacamhhfaaImRr
import Derived.Test.YtjpppdacamhhfaaImWr
import Derived.Test.YtjpppdacamhhfaaOpenB
import Derived.Laws.BytesArg
namespace Go.Proofs.Ytjpppdacamhhfaa
open Go.RowKit
set_option linter.unusedVariables false

theorem imgF_len {b : List Int} (hb : ∀ j, 0 ≤ nth b j ∧ nth b j ≤ 255) : (imgF b).2.1.length ≤ 2000 ∧ (imgF b).2.2.length ≤ 600 := by
  unfold imgF
  split
  · exact ⟨by simp, by simp⟩
  · split
    · exact ⟨by simp, by simp⟩
    · split
      · exact ⟨by simp, by simp⟩
      · rename_i ws a h1
        have l1 := (rdList_ok hb h1).2.1
        split
        · exact ⟨by simp, by simp⟩
        · rename_i rs a' h2
          have l2 := (rdList_ok hb h2).2.1
          split
          · exact ⟨by simp, by simp⟩
          · split
            · exact ⟨l1, l2⟩
            · exact ⟨by simp, by simp⟩
theorem imgF_zero {b : List Int} (h : (imgF b).1.1 = 0) : (imgF b).1.2 = 0 := by
  unfold imgF at h ⊢
  split at h
  · cases h
  · rename_i c1
    rw [if_neg c1]
    split at h
    · cases h
    · rename_i c2
      rw [if_neg c2]
      split at h
      · rename_i c a hr
        exact absurd h (rdList_no hr)
      · split at h
        · rename_i c a hr
          exact absurd h (rdList_no hr)
        · split at h
          · cases h
          · rename_i c3
            rw [if_neg c3]
            split at h
            · rename_i c4
              rw [if_pos c4]
            · rename_i c4
              exact absurd h c4
theorem words_i64 {ws : List Int} (hok : OkH ws) : I64 ws := i64_of_mem (fun x hx => by have := words_bd hok x hx; omega)
theorem fits_i64 {ws rs : List Int} (h : ∀ o ∈ rs, fitsB ws o = true) : I64 rs := i64_of_mem (fun x hx => by have := fits_bd (h x hx); omega)
/-- Bytes in memory as a string. -/
theorem conv_bytes {w : World} {b o c : Nat} {xs : List Int} (h : RowU w b o xs) : (convert 70 9 (.slice (some ⟨b, o, none⟩) xs.length c)).run Try.prog w = .ok (.string (strOfNums xs)) w :=
  run_convert_bytes_arg w 70 5 Try.underlying70 Try.underlying5 b o xs.length c xs rfl (fun i hi => h i hi) 9 Try.underlying9

set_option maxRecDepth 100000 in
set_option maxHeartbeats 4000000 in
theorem imageReads_walk (b : List Int) (A : Option Addr) (c : Nat) (w : World) (hA : IntsU w A b) (hcap : b.length ≤ c) (hb : ∀ j, 0 ≤ nth b j ∧ nth b j ≤ 255) (hbl : b.length ≤ 9223372036854775807) :
    Calls Try.prog 18 #[.slice A b.length c] w fun e w' => e = .returned (.bool true) ∧ Below w.heap.size w w' := by
  have HA := Lib.hid hA; have HB := Lib.hid hb
  have HLEN := Lib.hid (imgF_len hb)
  have HBACK := Lib.hid (fun h => img_back (b := b) hb h)
  have HZERO := Lib.hid (fun h => imgF_zero (b := b) h)
  clear hA hb
  go_enter Try.func18, Try.ntmps18
  go_wp2_with fail
  refine (read_any b A c w HA.out hbl HB.out).mono ?_
  rintro e w2 ⟨v1, v2, rfl, ho1, ho2, hb2⟩
  obtain ⟨A1, c1, rfl, -, hc1, -⟩ := ho1.form2
  obtain ⟨A2, c2, rfl, -, hc2, -⟩ := ho2.form2
  have hi1 := (own_ints9 ho1).1; have hi2 := (own_ints9 ho2).1
  have HAB := Lib.hid (HA.out.below hb2)
  generalize hFF : imgF b = F at *
  have HFF := Lib.hid hFF
  clear hFF ho1 ho2
  obtain ⟨⟨fc, fa⟩, ws, rs⟩ := F
  dsimp only at *
  have hx3 : Below w2.heap.size w2 ((w2.alloc (.cells #[.slice A1 ws.length c1] 33)).alloc (.cells #[.int .i64 fc, .int .i64 fa] 36)) := ((Below.refl _ _).alloc (Nat.le_refl _) _).alloc (by simp) _
  have hk3 : Blk ((w2.alloc (.cells #[.slice A1 ws.length c1] 33)).alloc (.cells #[.int .i64 fc, .int .i64 fa] 36)) w2.heap.size 33 #[.slice A1 ws.length c1] := (Blk.new _ _ _).alloc _
  have hf3 : Blk ((w2.alloc (.cells #[.slice A1 ws.length c1] 33)).alloc (.cells #[.int .i64 fc, .int .i64 fa] 36)) (w2.heap.size + 1) 36 #[.int .i64 fc, .int .i64 fa] := by
    have := Blk.new (w2.alloc (.cells #[.slice A1 ws.length c1] 33)) 36 #[.int .i64 fc, .int .i64 fa]
    rwa [World.size_alloc] at this
  have HX3 := Lib.hid (hb2.trans (hx3.mono hb2.size))
  have HK3 := Lib.hid hk3; have HF3 := Lib.hid hf3
  have HI1 := Lib.hid (hi1.below hx3); have HI2 := Lib.hid (hi2.below hx3); have HA3 := Lib.hid (HAB.out.below hx3)
  clear hx3 hk3 hf3 hi1 hi2 hb2 HAB
  unfold fltV
  go_wp2_with fail
  generalize ((w2.alloc (.cells #[.slice A1 ws.length c1] 33)).alloc (.cells #[.int .i64 fc, .int .i64 fa] 36)) = w3 at *
  generalize w2.heap.size = K at *
  refine (rread_any b A c w3 HA3.out hbl HB.out).mono ?_
  rintro e w4 ⟨v1, v2, rfl, ho1, ho2, hb4⟩
  obtain ⟨B1, d1, rfl, -, hd1, -⟩ := ho1.form2
  obtain ⟨B2, d2, rfl, -, hd2, -⟩ := ho2.form2
  have hj1 := (own_ints9 ho1).1; have hj2 := (own_ints9 ho2).1
  rw [HFF.out] at *
  dsimp only at *
  have hx5 : Below w4.heap.size w4 ((w4.alloc (.cells #[.slice B1 ws.length d1] 33)).alloc (.cells #[.int .i64 fc, .int .i64 fa] 36)) := ((Below.refl _ _).alloc (Nat.le_refl _) _).alloc (by simp) _
  have hk5 : Blk ((w4.alloc (.cells #[.slice B1 ws.length d1] 33)).alloc (.cells #[.int .i64 fc, .int .i64 fa] 36)) w4.heap.size 33 #[.slice B1 ws.length d1] := (Blk.new _ _ _).alloc _
  have hf5 : Blk ((w4.alloc (.cells #[.slice B1 ws.length d1] 33)).alloc (.cells #[.int .i64 fc, .int .i64 fa] 36)) (w4.heap.size + 1) 36 #[.int .i64 fc, .int .i64 fa] := by
    have := Blk.new (w4.alloc (.cells #[.slice B1 ws.length d1] 33)) 36 #[.int .i64 fc, .int .i64 fa]
    rwa [World.size_alloc] at this
  have hb35 := hb4.trans (hx5.mono hb4.size)
  have HX5 := Lib.hid (HX3.out.trans (hb35.mono HX3.out.size))
  have HKB5 := Lib.hid hk5; have HFB5 := Lib.hid hf5
  have HK5 := Lib.hid (HK3.out.below hb35 HK3.out.lt); have HF5 := Lib.hid (HF3.out.below hb35 HF3.out.lt)
  have HJ1 := Lib.hid (hj1.below hx5); have HJ2 := Lib.hid (hj2.below hx5)
  have HI15 := Lib.hid (HI1.out.below hb35); have HI25 := Lib.hid (HI2.out.below hb35); have HA5 := Lib.hid (HA3.out.below hb35)
  obtain ⟨x1, x2, x3⟩ := (HK3.out.below hb4 HK3.out.lt).f1
  clear hx5 hk5 hf5 hj1 hj2 hb4 hb35 ho1 ho2 HX3 HK3 HF3 HI1 HI2 HA3
  unfold fltV
  go_wp2_with fail
  clear x1 x2 x3
  generalize ((w4.alloc (.cells #[.slice B1 ws.length d1] 33)).alloc (.cells #[.int .i64 fc, .int .i64 fa] 36)) = w5 at *
  generalize w4.heap.size = L at *
  refine (heaps_any ws ws A1 B1 c1 d1 w5 HI15.out HJ1.out (by have := HLEN.out.1; omega)).mono ?_
  rintro e w6 ⟨rfl, hb6⟩
  rw [eqB_self]
  have HX6 := Lib.hid (HX5.out.trans (hb6.mono HX5.out.size))
  have HK6 := Lib.hid (HK5.out.below hb6 HK5.out.lt); have HF6 := Lib.hid (HF5.out.below hb6 HF5.out.lt); have HFB6 := Lib.hid (HFB5.out.below hb6 HFB5.out.lt)
  have HI16 := Lib.hid (HI15.out.below hb6); have HI26 := Lib.hid (HI25.out.below hb6); have HJ26 := Lib.hid (HJ2.out.below hb6); have HA6 := Lib.hid (HA5.out.below hb6)
  clear hb6 HX5 HK5 HF5 HFB5 HI15 HI25 HJ1 HJ2 HA5 HKB5
  go_wp2_with fail
  refine (ints_any rs rs A2 B2 c2 d2 w6 HI26.out HJ26.out (by have := HLEN.out.2; omega)).mono ?_
  rintro e w7 ⟨rfl, m, rfl⟩
  rw [eqB_self]
  have HX7 := Lib.hid (HX6.out.trans (belowN w.heap.size w6 m))
  have HK7 := Lib.hid (HK6.out.drewN m); have HF7 := Lib.hid (HF6.out.drewN m); have HFB7 := Lib.hid (HFB6.out.drewN m)
  have HI17 := Lib.hid (HI16.out.drewN m); have HI27 := Lib.hid (HI26.out.drewN m); have HA7 := Lib.hid (HA6.out.below (belowN _ _ m))
  clear HX6 HK6 HF6 HFB6 HI16 HI26 HJ26 HA6
  generalize w6.drewN m = w7 at *
  obtain ⟨y1, y2, y3, y4, y5⟩ := HF7.out.f2
  obtain ⟨z1, z2, z3, z4, z5⟩ := HFB7.out.f2
  obtain ⟨x1, x2, x3⟩ := HK7.out.f1
  cases hc : (fc == 0)
  · have hne : fc ≠ 0 := by simpa using hc
    have hc2 : (fc != 0) = true := by simpa using hne
    clear hne
    go_wp2_with fail
    go_ret
    exact ⟨rfl, HX7.out⟩
  · have h0 : fc = 0 := by simpa using hc
    subst h0
    obtain rfl : fa = 0 := HZERO.out rfl
    obtain ⟨hbk, hrz, hr6⟩ := HBACK.out rfl
    obtain ⟨hok, -, -, hfit, -⟩ := rootsF_zero hrz
    have hwr : wrF ws rs = rootsF ws rs := if_neg (fun e => by have := e.2; omega)
    have HWR := Lib.hid hwr; have HRZ := Lib.hid hrz; have HBK := Lib.hid hbk
    have hpos : 0 < b.length := by rw [hbk]; unfold imgB; simp
    obtain ⟨bb, oo, rfl, hbb, hrow⟩ := HA7.out hpos
    have HROW := Lib.hid hrow
    have hwcall := write_any ws rs A1 A2 c1 c2 w7 HI17.out hc1 (words_i64 hok) (by have := hok.most; omega) HI27.out (fits_i64 hfit) (by omega)
    have HWC := Lib.hid hwcall
    clear hbk hrz hok hfit hwr hrow hwcall hc
    go_wp2_with fail
    refine HWC.out.mono ?_
    rintro e w8 ⟨hb8, hcase⟩
    obtain ⟨-, bw, cw, rfl, hbw, hrw⟩ := hcase.resolve_left (fun h => h.1 (by rw [HWR.out]; exact HRZ.out))
    have HX8 := Lib.hid (HX7.out.trans (hb8.mono HX7.out.size))
    have hf8 := HF7.out.below hb8 HF7.out.lt
    have s0 : w8.setCell ⟨K + 1, 0, none⟩ (.int .i64 0) = w8 := setCell_same hf8 rfl
    have s1 : w8.setCell ⟨K + 1, 1, none⟩ (.int .i64 0) = w8 := setCell_same hf8 rfl
    have hv1 := conv_bytes (c := cw) hrw
    have hv2 := conv_bytes (c := c) (HROW.out.below hb8 hbb)
    rw [← HBK.out] at hv1
    obtain ⟨y1', y2', y3', y4', y5'⟩ := hf8.f2
    have hlen9 : (imgB ws rs).length = b.length := by rw [← HBK.out]
    rw [hlen9]
    clear hb8 hf8 hcase hrw hlen9 y1 y2 y3 y4 y5 z1 z2 z3 z4 z5 x1 x2 x3
    have hss : ((strOfNums b).toList == (strOfNums b).toList) = true := by simp
    unfold fltV
    go_wp2_with fail
    go_ret
    exact ⟨rfl, HX8.out⟩
end Go.Proofs.Ytjpppdacamhhfaa
