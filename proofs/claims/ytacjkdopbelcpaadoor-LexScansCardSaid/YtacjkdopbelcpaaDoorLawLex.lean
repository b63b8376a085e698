/- What LexScans' code computes. Conditions: strconv.ErrRange holds an error. -/
import Derived.Test.YtacjkdopbelcpaaDoorLxE
import Derived.BigRegion
namespace Go.Proofs.YtacjkdopbelcpaaDoor
open Go.RowKit
set_option linter.unusedVariables false

theorem scanA_few (s : ByteArray) : ∀ (fuel i : Nat) (acc : List Tok), acc.length ≤ i → i ≤ s.size → (scanA s fuel i acc).1.length ≤ s.size
  | 0, i, acc, h, hi => by
    show acc.length ≤ _
    omega
  | fuel + 1, i, acc, h, hi => by
    unfold scanA
    split
    · rename_i hlt
      split
      · rename_i he
        have hl := cut_len (x := s.extract i s.size) (by rw [sub_size]; omega) he
        rw [sub_size] at hl
        refine scanA_few s fuel _ _ ?_ (by omega)
        split
        · omega
        · rw [List.length_append, List.length_singleton]; omega
      · exact Nat.zero_le _
    · show acc.length ≤ _
      omega
theorem scan_few (s : ByteArray) : (scanF s).1.length ≤ 4000 := by
  unfold scanF
  split
  · exact Nat.zero_le _
  · have := scanA_few s (s.size + 1) 0 [] (Nat.le_refl _) (Nat.zero_le _)
    omega
set_option maxRecDepth 100000 in
set_option maxHeartbeats 2000000 in
theorem lexScans_walk (s : ByteArray) (W : World) (hs : s.size ≤ 9223372036854775807) (hv : LV W) : Calls Tryd.prog 3 #[.string s] W fun e w' => e = .returned (.bool true) ∧ Below W.heap.size W w' := by
  have HSC := Lib.hid (scan_any s hs W hv)
  have HRS := Lib.hid (rscan_any s hs)
  clear hv
  unfold ScanTold at HSC HRS
  have hlen : (scanF s).1.length ≤ 4000 := scan_few s
  generalize scanF s = r at *
  obtain ⟨l, f, k⟩ := r
  dsimp only at HSC HRS hlen
  go_enter Tryd.func3, Tryd.ntmps3
  go_wp2_with fail
  refine HSC.out.mono ?_
  rintro e w1 ⟨hb1, C1, c1, rfl, ht1⟩
  have HB1 := Lib.hid (hb1.alloc hb1.size (.cells #[.int .i64 f, .int .i64 (k : Nat)] 25))
  have HQ1 := Lib.hid (Blk.new w1 25 #[.int .i64 f, .int .i64 (k : Nat)])
  have HT1 := Lib.hid (ht1.below ((Below.refl _ _).alloc (Nat.le_refl _) (.cells #[.int .i64 f, .int .i64 (k : Nat)] 25)))
  clear hb1 ht1 HSC
  go_wp2_with fail
  generalize w1.alloc (.cells #[.int .i64 f, .int .i64 (k : Nat)] 25) = w2 at *
  refine (HRS.out w2).mono ?_
  rintro e w3 ⟨hb3, C3, c3, rfl, ht3⟩
  have hb4 : Below w2.heap.size w2 (w3.alloc (.cells #[.int .i64 f, .int .i64 (k : Nat)] 25)) := hb3.alloc hb3.size _
  have HB4 := Lib.hid (HB1.out.trans (hb4.mono HB1.out.size))
  have HQ4 := Lib.hid (HQ1.out.below hb4 HQ1.out.lt)
  have HP4 := Lib.hid (Blk.new w3 25 #[.int .i64 f, .int .i64 (k : Nat)])
  have HT4 := Lib.hid (HT1.out.below hb4)
  have HR4 := Lib.hid (ht3.below ((Below.refl _ _).alloc (Nat.le_refl _) (.cells #[.int .i64 f, .int .i64 (k : Nat)] 25)))
  obtain ⟨q1, q2, q3, q4, q5⟩ := HQ4.out.f2
  obtain ⟨p1, p2, p3, p4, p5⟩ := HP4.out.f2
  clear hb3 ht3 hb4 HRS HB1 HQ1 HT1
  go_wp2_with fail
  clear q1 q2 q3 q4 q5 p1 p2 p3 p4 p5 HQ4 HP4
  generalize w3.alloc (.cells #[.int .i64 f, .int .i64 (k : Nat)] 25) = w4 at *
  go_loopw [7] (fun v wr => ∃ i m : Nat, v = .int .i64 (i : Int) ∧ i ≤ l.length ∧ wr = w4.drewN m) (fun v _ => l.length - (intOf v).toNat)
  case atStart => exact ⟨0, 0, rfl, Nat.zero_le _, rfl⟩
  case round =>
    obtain ⟨i, m, rfl, hi, rfl⟩ := hrel
    by_cases hlt : i < l.length
    · obtain ⟨b1, o1, rfl, hb1, hc1⟩ := HT4.out (by omega)
      obtain ⟨b3, o3, rfl, hb3, hc3⟩ := HR4.out (by omega)
      obtain ⟨x1, x2, x3⟩ := hc1 i hlt
      obtain ⟨y1, y2, y3⟩ := hc3 i hlt
      generalize l[i] = t at *
      clear hc1 hc3
      go_wp2_with fail
      go_quiet (fail)
      go_wp2
      go_roundw
      case rel => exact ⟨i + 1, _, by go_num, by omega, rfl⟩
      case measure => simp [intOf]; omega
    · go_wp2_with fail
      go_ret
      exact ⟨rfl, HB4.out.trans (belowN _ _ _)⟩
end Go.Proofs.YtacjkdopbelcpaaDoor
