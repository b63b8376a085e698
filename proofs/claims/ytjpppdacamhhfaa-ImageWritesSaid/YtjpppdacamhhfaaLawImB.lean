/- What ImageBack's code computes. Conditions: bytes; the words are numbers of 64 bits. -/
import Derived.Test.YtjpppdacamhhfaaLawImR
import Derived.Test.YtjpppdacamhhfaaVast
namespace Go.Proofs.Ytjpppdacamhhfaa
open Go.RowKit
set_option linter.unusedVariables false



section
variable (xs ys : List Int) (A B : Option Addr) (c d : Nat) (w : World) (hA : Ints w A xs) (hB : Ints w B ys) (hl : xs.length ≤ 1000000000)
include hA hB hl
theorem kints_any : Calls Try.prog 58 #[.slice A xs.length c, .slice B ys.length d] w fun e w' => e = .returned (.bool (eqB xs ys)) ∧ ∃ m, w' = w.drewN m := by
  have HA := Lib.hid hA; clear hA
  have HB := Lib.hid hB; clear hB
  by_cases hlen : xs.length = ys.length
  · have HL := Lib.hid hlen
    have hle : xs.length ≤ ys.length := by omega
    have hge : ys.length ≤ xs.length := by omega
    have hd : ((xs.length : Int) != (ys.length : Int)) = false := by simp; omega
    clear hlen
    go_enter Try.func58, Try.ntmps58
    go_wp2_with fail
    go_loopw [5] (fun i wr => ∃ (k m : Nat), k ≤ xs.length ∧ i = .int .i64 k ∧ wr = w.drewN m ∧ ∀ j, j < k → nth xs j = nth ys j) (fun i _ => xs.length - (intOf i).toNat)
    case atStart => exact ⟨0, 0, Nat.zero_le _, rfl, rfl, fun j hj => absurd hj (Nat.not_lt_zero _)⟩
    case round =>
      obtain ⟨k, m, hk, rfl, rfl, hall⟩ := hrel
      have HALL := Lib.hid hall; clear hall
      by_cases hlt : k < xs.length
      · obtain ⟨b, o, rfl, _, hr⟩ := HA.out (by omega)
        obtain ⟨b', o', rfl, _, hr'⟩ := HB.out (by omega)
        have h1 := hr k hlt
        have h2 := hr' k (by omega)
        have f1 : (0 : Int) ≤ (k : Int) := by omega
        have f2 : (k : Int) < (xs.length : Int) := by omega
        have f3 : (k : Int) < (ys.length : Int) := by omega
        clear hr hr'
        cases he : (nth xs k != nth ys k)
        · have he' : nth xs k = nth ys k := by simpa using he
          have HE := Lib.hid he'; clear he'
          go_wp2_with fail
          go_quiet (fail)
          go_wp2
          go_roundw
          case rel => exact ⟨k + 1, _, by omega, by go_num, rfl, fun j hj => by rcases Nat.lt_or_ge j k with h | h; exact HALL.out j h; obtain rfl : j = k := by omega
                                                                                exact HE.out⟩
          case measure => simp [intOf]; omega
        · have he' : nth xs k ≠ nth ys k := by simpa using he
          have HE := Lib.hid (eqB_nth he'); clear he'
          go_wp2_with fail
          go_quiet (fail)
          go_wp2
          go_ret
          exact ⟨ret_bool HE.out.symm, _, World.drewN_drewN ..⟩
      · have HE := Lib.hid (eqB_all HL.out (fun j hj => HALL.out j (by omega)))
        go_wp2
        go_ret
        exact ⟨ret_bool HE.out.symm, _, rfl⟩
  · have HN := Lib.hid (eqB_len hlen)
    have hd : ((xs.length : Int) != (ys.length : Int)) = true := by simp; omega
    clear hlen
    go_enter Try.func58, Try.ntmps58
    go_wp2
    go_ret
    exact ⟨ret_bool HN.out.symm, 0, rfl⟩

end

theorem RowU.setF {w : World} {b o : Nat} {xs : List Int} {p : Addr} (h : RowU w b o xs) (hne : b ≠ p.block) (u : Value) : RowU (w.setCell p u) b o xs := fun j hj => by
  rw [← h j hj]
  exact World.cell?_of_block (w := w) (a := ⟨b, o + j, none⟩) (Below.heap_setCell w p u b hne)
theorem wrF_zero {ws rs : List Int} (h : (wrF ws rs).1 = 0) : (rootsF ws rs).1 = 0 ∧ rs.length ≤ 600 := by
  unfold wrF at h
  split at h
  · cases h
  · rename_i c
    exact ⟨h, Nat.le_of_not_lt (fun e => c ⟨h, e⟩)⟩
theorem vb_range : ∀ (f u : Nat), u ≤ f → ∀ x ∈ vb u, 0 ≤ x ∧ x ≤ 255
  | 0, u, hu, x, hx => by
    rw [vb_low (by omega)] at hx
    simp at hx; omega
  | f + 1, u, hu, x, hx => by
    by_cases h : u < 128
    · rw [vb_low h] at hx
      simp at hx; omega
    · rw [vb_high (by omega)] at hx
      rcases List.mem_cons.1 hx with rfl | hx
      · omega
      · exact vb_range f (u / 128) (by omega) x hx
theorem listB_range (l : List Int) : ∀ x ∈ listB l, 0 ≤ x ∧ x ≤ 255 := by
  intro x hx
  unfold listB at hx
  rcases List.mem_append.1 hx with hx | hx
  · exact vb_range _ _ (Nat.le_refl _) x hx
  · obtain ⟨y, hy, hx⟩ := List.mem_flatMap.1 hx
    exact vb_range _ _ (Nat.le_refl _) x hx
theorem imgB_range {ws' rs' : List Int} (h1 : I64 ws') (h2 : I64 rs') (ws rs : List Int) : ∀ j, 0 ≤ nth (imgB ws rs) j ∧ nth (imgB ws rs) j ≤ 255 := fun j => by
  by_cases hj : j < (imgB ws rs).length
  · rw [nth_eq hj]
    have hm := List.getElem_mem hj
    unfold imgB at hm
    rcases List.mem_append.1 hm with hm | hm
    · rcases List.mem_append.1 hm with hm | hm
      · simp only [List.mem_cons, List.not_mem_nil, or_false] at hm
        unfold imgB
        rcases hm with hm | hm <;> rw [hm] <;> omega
      · exact listB_range _ _ hm
    · exact listB_range _ _ hm
  · rw [nth_outU (by omega)]; omega
theorem fix_img : imgB [0, 1] [] = [71, 69, 4, 0, 2, 0] := by
  unfold imgB listB numB
  simp [zz, vb_low]
theorem fix_wr : (wrF [0, 1] []).1 = 0 := by decide +kernel
theorem fix_str : strOfNums [71, 69, 4, 0, 2, 0] = { data := #[71, 69, 4, 0, 2, 0] } := by rfl

set_option maxRecDepth 100000 in
set_option maxHeartbeats 4000000 in
theorem imageBack_walk (b : List Int) (A : Option Addr) (c : Nat) (ws : List Int) (A1 : Option Addr) (c1 : Nat) (rs : List Int) (A2 : Option Addr) (c2 : Nat) (w : World)
    (hA : IntsU w A b) (hcap : b.length ≤ c) (hb : ∀ j, 0 ≤ nth b j ∧ nth b j ≤ 255) (hbl : b.length ≤ 9223372036854775807)
    (hA1 : Ints w A1 ws) (hcap1 : ws.length ≤ c1) (hw : I64 ws) (hl1 : ws.length ≤ 9223372036854775807) (hA2 : Ints w A2 rs) (hcap2 : rs.length ≤ c2) (hr : I64 rs) (hl2 : rs.length ≤ 9223372036854775807) :
    Calls Try.prog 19 #[.slice A b.length c, .agg #[.slice A1 ws.length c1], .slice A2 rs.length c2] w fun e w' => e = .returned (.bool true) ∧ Below w.heap.size w w' := by
  have hx1 : Below w.heap.size w ((w.alloc (.cells #[.slice A1 ws.length c1] 33)).alloc (.cells #[.int .i64 0, .int .i64 1] 3)) := ((Below.refl _ _).alloc (Nat.le_refl _) _).alloc (by simp) _
  have hh1 : Blk ((w.alloc (.cells #[.slice A1 ws.length c1] 33)).alloc (.cells #[.int .i64 0, .int .i64 1] 3)) w.heap.size 33 #[.slice A1 ws.length c1] := (Blk.new _ _ _).alloc _
  have hi0 : Ints ((w.alloc (.cells #[.slice A1 ws.length c1] 33)).alloc (.cells #[.int .i64 0, .int .i64 1] 3)) (some ⟨w.heap.size + 1, 0, none⟩) [0, 1] := by
    have h := ints_new (w.alloc (.cells #[.slice A1 ws.length c1] 33)) [0, 1]
    simp only [World.size_alloc] at h
    exact h
  have HX1 := Lib.hid hx1; have HH1 := Lib.hid hh1; have HI0 := Lib.hid hi0
  have HA := Lib.hid hA; have HB := Lib.hid hb; have HI1 := Lib.hid hA1; have HI2 := Lib.hid hA2; have HW := Lib.hid hw; have HR := Lib.hid hr
  have HLEN := Lib.hid (imgF_len hb)
  have HBACK := Lib.hid (fun h => img_back (b := b) hb h)
  have HZERO := Lib.hid (fun h => imgF_zero (b := b) h)
  clear hx1 hh1 hi0 hA hb hA1 hA2 hw hr
  go_enter Try.func19, Try.ntmps19
  go_wp2_with fail
  generalize ((w.alloc (.cells #[.slice A1 ws.length c1] 33)).alloc (.cells #[.int .i64 0, .int .i64 1] 3)) = w1 at *
  refine (write_any [0, 1] [] (some ⟨w.heap.size + 1, 0, none⟩) none 2 0 w1 HI0.out (by simp) (i64_of_mem (by decide)) (by simp) (Ints.nil _ _) (i64_of_mem (by simp)) (by simp)).mono ?_
  rintro e w2 ⟨hb2, hcase⟩
  obtain ⟨-, b0, c0, rfl, hb0, hr0⟩ := hcase.resolve_left (fun h => h.1 fix_wr)
  rw [fix_img] at hr0 ⊢
  have HX2 := Lib.hid (HX1.out.trans (hb2.mono HX1.out.size))
  have HH2 := Lib.hid (HH1.out.below hb2 HH1.out.lt)
  have hx3 : Below w2.heap.size w2 (w2.alloc (.cells #[.int .i64 0, .int .i64 0] 36)) := (Below.refl _ _).alloc (Nat.le_refl _) _
  have HX3 := Lib.hid (HX2.out.trans (hx3.mono HX2.out.size))
  have HH3 := Lib.hid (HH2.out.below hx3 HH2.out.lt)
  have HF3 := Lib.hid (Blk.new w2 36 #[.int .i64 0, .int .i64 0])
  have hF3 : w.heap.size < w2.heap.size := HH2.out.lt
  have hv1 := conv_bytes (c := c0) (hr0.below hx3 hb0)
  rw [fix_str] at hv1
  have hss : ((({ data := #[71, 69, 4, 0, 2, 0] } : ByteArray).toList) == (({ data := #[71, 69, 4, 0, 2, 0] } : ByteArray).toList)) = true := by simp
  clear hb2 hcase hx3 hr0 HX2 HH2 HX1 HH1 HI0
  unfold fltV
  dsimp only [List.length_cons, List.length_nil, Nat.reduceAdd] at *
  go_wp2_with fail
  clear hv1 hss
  generalize (w2.alloc (.cells #[.int .i64 0, .int .i64 0] 36)) = w3 at *
  generalize w2.heap.size = F at *
  refine (read_any b A c w3 (HA.out.below HX3.out) hbl HB.out).mono ?_
  rintro e w4 ⟨v1, v2, rfl, ho1, ho2, hb4⟩
  obtain ⟨A3, c3, rfl, -, hc3, -⟩ := ho1.form2
  obtain ⟨A4, c4, rfl, -, hc4, -⟩ := ho2.form2
  generalize hFF : imgF b = FF at *
  have HFF := Lib.hid hFF
  clear hFF
  obtain ⟨⟨fc, fa⟩, us, qs⟩ := FF
  dsimp only at *
  have hf4 := HF3.out.below hb4 HF3.out.lt
  have hlF : F < w4.heap.size := hf4.lt
  have hx4 := HX3.out.trans (hb4.mono HX3.out.size)
  have hsz : ((w4.setCell ⟨F, 0, none⟩ (.int .i64 fc)).setCell ⟨F, 1, none⟩ (.int .i64 fa)).heap.size = w4.heap.size := by simp [World.setCell]
  have hf5 : Blk (((w4.setCell ⟨F, 0, none⟩ (.int .i64 fc)).setCell ⟨F, 1, none⟩ (.int .i64 fa)).alloc (.cells #[.slice A3 us.length c3] 33)) F 36 #[.int .i64 fc, .int .i64 fa] := by
    have := ((hf4.set_ 0 (.int .i64 fc)).set_ 1 (.int .i64 fa)).alloc (.cells #[.slice A3 us.length c3] 33)
    simpa using this
  have hk5 : Blk (((w4.setCell ⟨F, 0, none⟩ (.int .i64 fc)).setCell ⟨F, 1, none⟩ (.int .i64 fa)).alloc (.cells #[.slice A3 us.length c3] 33)) w4.heap.size 33 #[.slice A3 us.length c3] := by
    have := Blk.new ((w4.setCell ⟨F, 0, none⟩ (.int .i64 fc)).setCell ⟨F, 1, none⟩ (.int .i64 fa)) 33 #[.slice A3 us.length c3]
    rwa [hsz] at this
  have HF5 := Lib.hid hf5; have HK5 := Lib.hid hk5
  have HH5 := Lib.hid ((((HH3.out.below hb4 HH3.out.lt).far (p := ⟨F, 0, none⟩) (by dsimp only; omega) (.int .i64 fc)).far (p := ⟨F, 1, none⟩) (by dsimp only; omega) (.int .i64 fa)).alloc (.cells #[.slice A3 us.length c3] 33))
  have HX5 := Lib.hid (((hx4.setCell (p := ⟨F, 0, none⟩) (by dsimp only; omega) (.int .i64 fc)).setCell (p := ⟨F, 1, none⟩) (by dsimp only; omega) (.int .i64 fa)).alloc (by rw [hsz]; omega) (.cells #[.slice A3 us.length c3] 33))
  have HJ1 := Lib.hid ((own_ints9 ((ho1.setCell ⟨F, 0, none⟩ (fun e => by have := (ho1.lt F e).1; have := HF3.out.lt; omega) (.int .i64 fc)).setCell ⟨F, 1, none⟩ (fun e => by have := (ho1.lt F e).1; have := HF3.out.lt; omega) (.int .i64 fa))).1.alloc (.cells #[.slice A3 us.length c3] 33))
  have HJ2 := Lib.hid ((own_ints9 ((ho2.setCell ⟨F, 0, none⟩ (fun e => by have := (ho2.lt F e).1; have := HF3.out.lt; omega) (.int .i64 fc)).setCell ⟨F, 1, none⟩ (fun e => by have := (ho2.lt F e).1; have := HF3.out.lt; omega) (.int .i64 fa))).1.alloc (.cells #[.slice A3 us.length c3] 33))
  obtain ⟨z1, z2, z3, z4, z5⟩ := hf4.f2
  clear hb4 ho1 ho2 hf5 hk5 hx4 HX3 HH3 HF3 hsz
  unfold fltV
  cases hc : (fc == 0)
  · obtain ⟨x1, x2, x3⟩ := HH5.out.f1
    go_wp2_with fail
    clear z1 z2 z3 z4 z5 hc hf4 x1 x2 x3
    generalize (((w4.setCell ⟨F, 0, none⟩ (.int .i64 fc)).setCell ⟨F, 1, none⟩ (.int .i64 fa)).alloc (.cells #[.slice A3 us.length c3] 33)) = w9 at *
    generalize w4.heap.size = K at *
    have HX9 := HX5; have HH9 := HH5; have HK9 := HK5; have HF9 := HF5
    clear HX5 HH5 HK5 HF5 HJ1 HJ2
    clear HFF HLEN HBACK HZERO
    have hKlt : K < w9.heap.size := HK9.out.lt
    refine (vastk_any ws rs [] A1 A2 none c1 c2 0 w9).mono ?_
    rintro e w10 ⟨rfl, hb10⟩
    have HX10 := Lib.hid (HX9.out.trans (hb10.mono HX9.out.size))
    have HH10 := Lib.hid (HH9.out.below hb10 HH9.out.lt); have HK10 := Lib.hid (HK9.out.below hb10 HK9.out.lt); have HF10 := Lib.hid (HF9.out.below hb10 HF9.out.lt)
    clear hb10 HX9 HH9 HK9 HF9
    by_cases hbig : 5000 < ws.length ∨ 5000 < rs.length
    · have hvv : (decide (5000 < ws.length) || decide (5000 < rs.length) || decide (5000 < ([] : List Int).length)) = true := by
        simp only [Bool.or_eq_true, decide_eq_true_eq]; omega
      rw [hvv]
      clear hbig hvv
      go_wp2_with fail
      go_ret
      exact ⟨rfl, HX10.out⟩
    have hs1 : ws.length ≤ 5000 := by omega
    have hs2 : rs.length ≤ 5000 := by omega
    have hvv : (decide (5000 < ws.length) || decide (5000 < rs.length) || decide (5000 < ([] : List Int).length)) = false := by
      simp only [Bool.or_eq_false_iff, decide_eq_false_iff_not, List.length_nil]; omega
    rw [hvv]
    clear hvv hbig
    obtain ⟨x1, x2, x3⟩ := HH10.out.f1
    go_wp2_with fail
    refine (write_any ws rs A1 A2 c1 c2 w10 (HI1.out.below HX10.out) hcap1 HW.out (by omega) (HI2.out.below HX10.out) HR.out (by omega)).mono ?_
    rintro e w11 ⟨hb11, hcase⟩
    have HX11 := Lib.hid (HX10.out.trans (hb11.mono HX10.out.size))
    have HH11 := Lib.hid (HH10.out.below hb11 HH10.out.lt); have HK11 := Lib.hid (HK10.out.below hb11 HK10.out.lt); have HF11 := Lib.hid (HF10.out.below hb11 HF10.out.lt)
    clear hb11 x1 x2 x3 HX10 HH10 HK10 HF10
    obtain ⟨z1, z2, z3, z4, z5⟩ := HF11.out.f2
    rcases hcase with ⟨h0, rfl⟩ | ⟨h0, bw, cw, rfl, hbw, hrw⟩
    · have hc2 : ((wrF ws rs).1 != 0) = true := by simpa using h0
      clear h0
      unfold fltV
      go_wp2_with fail
      go_ret
      exact ⟨rfl, (HX11.out.setCell (by dsimp only; omega) _).setCell (by dsimp only; omega) _⟩
    have hrr : (rootsF ws rs).1 = 0 ∧ rs.length ≤ 600 := wrF_zero h0
    have HBK := Lib.hid (img_fore hrr.1 hrr.2)
    have himl : (imgB ws rs).length ≤ 1000000 := by
      unfold imgB
      rw [List.length_append, List.length_append]
      have h1 := listB_len HW.out (by omega : ws.length ≤ 1000000); have h2 := listB_len HR.out (by omega : rs.length ≤ 1000000)
      show 2 + _ + _ ≤ _; omega
    have hpos : 0 < (imgB ws rs).length := by unfold imgB; simp
    have hbwF : bw ≠ F := fun e => by
      subst e
      have a := hrw 0 hpos
      rw [Nat.add_zero, z1] at a
      cases a
    have hfz : Blk ((w11.setCell ⟨F, 0, none⟩ (.int .i64 0)).setCell ⟨F, 1, none⟩ (.int .i64 0)) F 36 #[.int .i64 0, .int .i64 0] := by
      have := (HF11.out.set_ 0 (.int .i64 0)).set_ 1 (.int .i64 0)
      simpa using this
    have HF12 := Lib.hid hfz
    have HX12 := Lib.hid ((HX11.out.setCell (p := ⟨F, 0, none⟩) (by dsimp only; omega) (.int .i64 0)).setCell (p := ⟨F, 1, none⟩) (by dsimp only; omega) (.int .i64 0))
    have HH12 := Lib.hid ((HH11.out.far (p := ⟨F, 0, none⟩) (by dsimp only; omega) (.int .i64 0)).far (p := ⟨F, 1, none⟩) (by dsimp only; omega) (.int .i64 0))
    have HK12 := Lib.hid ((HK11.out.far (p := ⟨F, 0, none⟩) (by dsimp only; omega) (.int .i64 0)).far (p := ⟨F, 1, none⟩) (by dsimp only; omega) (.int .i64 0))
    have hrow12 : RowU ((w11.setCell ⟨F, 0, none⟩ (.int .i64 0)).setCell ⟨F, 1, none⟩ (.int .i64 0)) bw 0 (imgB ws rs) := (hrw.setF (p := ⟨F, 0, none⟩) hbwF (.int .i64 0)).setF (p := ⟨F, 1, none⟩) hbwF (.int .i64 0)
    have hbw12 : bw < ((w11.setCell ⟨F, 0, none⟩ (.int .i64 0)).setCell ⟨F, 1, none⟩ (.int .i64 0)).heap.size := by simpa [World.setCell] using hbw
    have HRW12 := Lib.hid hrow12
    clear hfz hrow12 hrw hbw h0 HX11 HH11 HK11 HF11
    unfold fltV
    go_wp2_with fail
    clear z1 z2 z3 z4 z5
    generalize ((w11.setCell ⟨F, 0, none⟩ (.int .i64 0)).setCell ⟨F, 1, none⟩ (.int .i64 0)) = w12 at *
    refine (read_any (imgB ws rs) (some ⟨bw, 0, none⟩) cw w12 (fun _ => ⟨bw, 0, rfl, hbw12, HRW12.out⟩) (by omega) (imgB_range HW.out HR.out ws rs)).mono ?_
    rintro e w14 ⟨v1, v2, rfl, ho1, ho2, hb14⟩
    rw [HBK.out] at *
    dsimp only at *
    obtain ⟨D1, e1, rfl, -, he1, -⟩ := ho1.form2
    obtain ⟨D2, e2, rfl, -, he2, -⟩ := ho2.form2
    have hk12 : K < w12.heap.size := HK12.out.lt
    have HX14 := Lib.hid (HX12.out.trans (hb14.mono HX12.out.size))
    have HH14 := Lib.hid (HH12.out.below hb14 HH12.out.lt); have HK14 := Lib.hid (HK12.out.below hb14 HK12.out.lt); have HF14 := Lib.hid (HF12.out.below hb14 HF12.out.lt)
    have hk15 : Blk (w14.setCell ⟨K, 0, none⟩ (.slice D1 ws.length e1)) K 33 #[.slice D1 ws.length e1] := HK14.out.set_ 0 _
    have hf15 := HF14.out.far (p := ⟨K, 0, none⟩) (by dsimp only; omega) (.slice D1 ws.length e1)
    have HK15 := Lib.hid hk15; have HF15 := Lib.hid hf15
    have HH15 := Lib.hid (HH14.out.far (p := ⟨K, 0, none⟩) (by dsimp only; omega) (.slice D1 ws.length e1))
    have HX15 := Lib.hid (HX14.out.setCell (p := ⟨K, 0, none⟩) (by dsimp only; omega) (.slice D1 ws.length e1))
    have HJ1 := Lib.hid (own_ints9 (ho1.setCell ⟨K, 0, none⟩ (fun e => by have := (ho1.lt K e).1; omega) (.slice D1 ws.length e1))).1
    have HJ2 := Lib.hid (own_ints9 (ho2.setCell ⟨K, 0, none⟩ (fun e => by have := (ho2.lt K e).1; omega) (.slice D1 ws.length e1))).1
    have q0 : (w14.setCell ⟨K, 0, none⟩ (.slice D1 ws.length e1)).setCell ⟨F, 0, none⟩ (.int .i64 0) = w14.setCell ⟨K, 0, none⟩ (.slice D1 ws.length e1) := setCell_same hf15 rfl
    have q1 : (w14.setCell ⟨K, 0, none⟩ (.slice D1 ws.length e1)).setCell ⟨F, 1, none⟩ (.int .i64 0) = w14.setCell ⟨K, 0, none⟩ (.slice D1 ws.length e1) := setCell_same hf15 rfl
    obtain ⟨z1, z2, z3⟩ := HK14.out.f1
    obtain ⟨y1, y2, y3, y4, y5⟩ := HF14.out.f2
    obtain ⟨x1, x2, x3⟩ := HH14.out.f1
    clear hb14 ho1 ho2 hk15 hf15 HX12 HH12 HK12 HF12 HX14 HH14 HK14 HF14
    unfold fltV
    go_wp2_with fail
    clear q0 q1 z1 z2 z3 y1 y2 y3 y4 y5 x1 x2 x3
    generalize (w14.setCell ⟨K, 0, none⟩ (.slice D1 ws.length e1)) = w15 at *
    refine (kints_any ws ws D1 A1 e1 c1 w15 HJ1.out (HI1.out.below HX15.out) (by omega)).mono ?_
    rintro e w16 ⟨rfl, m1, rfl⟩
    rw [eqB_self]
    go_wp2_with fail
    refine (kints_any rs rs D2 A2 e2 c2 _ (HJ2.out.drewN m1) ((HI2.out.below HX15.out).drewN m1) (by omega)).mono ?_
    rintro e w17 ⟨rfl, m2, rfl⟩
    rw [eqB_self, World.drewN_drewN]
    obtain ⟨z1, z2, z3, z4, z5⟩ := (HF15.out.drewN (m1 + m2)).f2
    go_wp2_with fail
    go_ret
    exact ⟨rfl, HX15.out.trans (belowN _ _ _)⟩
  · have h0 : fc = 0 := by simpa using hc
    subst h0
    obtain rfl : fa = 0 := HZERO.out rfl
    obtain ⟨hbk, hrz, hr6⟩ := HBACK.out rfl
    obtain ⟨hok, -, -, hfit, -⟩ := rootsF_zero hrz
    have hwr : wrF us qs = rootsF us qs := if_neg (fun e => by have := e.2; omega)
    have HWR := Lib.hid hwr; have HRZ := Lib.hid hrz; have HBK := Lib.hid hbk
    have hpos : 0 < b.length := by rw [hbk]; unfold imgB; simp
    have hwi := words_i64 hok; have hqi := fits_i64 hfit
    have hul := hok.most
    clear hbk hrz hok hfit hwr hc
    go_wp2_with fail
    clear z1 z2 z3 z4 z5 hf4
    generalize (((w4.setCell ⟨F, 0, none⟩ (.int .i64 0)).setCell ⟨F, 1, none⟩ (.int .i64 0)).alloc (.cells #[.slice A3 us.length c3] 33)) = w5 at *
    generalize w4.heap.size = K at *
    obtain ⟨bb, oo, rfl, hbb, hrow⟩ := (HA.out.below HX5.out) hpos
    have HROW := Lib.hid hrow
    clear hrow
    obtain ⟨y1, y2, y3⟩ := HK5.out.f1
    try go_wp2_with fail
    refine (write_any us qs A3 A4 c3 c4 w5 HJ1.out hc3 hwi (by omega) HJ2.out hqi (by omega)).mono ?_
    rintro e w6 ⟨hb6, hcase⟩
    obtain ⟨-, bw, cw, rfl, hbw, hrw⟩ := hcase.resolve_left (fun h => h.1 (by rw [HWR.out]; exact HRZ.out))
    have hx7 : Below w6.heap.size w6 (w6.alloc (.cells #[.int .i64 0, .int .i64 0] 36)) := (Below.refl _ _).alloc (Nat.le_refl _) _
    have hb57 := hb6.trans (hx7.mono hb6.size)
    have HX9 := Lib.hid (HX5.out.trans (hb57.mono HX5.out.size))
    have HH9 := Lib.hid (HH5.out.below hb57 HH5.out.lt); have HK9 := Lib.hid (HK5.out.below hb57 HK5.out.lt); have HF9 := Lib.hid (HF5.out.below hb57 HF5.out.lt)
    have hv1 := conv_bytes (c := cw) (hrw.below hx7 hbw)
    have hv2 := conv_bytes (c := c) (HROW.out.below hb57 hbb)
    rw [← HBK.out] at hv1
    have hlen9 : (imgB us qs).length = b.length := by rw [← HBK.out]
    rw [hlen9]
    have hss : ((strOfNums b).toList == (strOfNums b).toList) = true := by simp
    clear hb6 hx7 hb57 hcase hrw hlen9 y1 y2 y3 HX5 HH5 HK5 HF5 HJ1 HJ2 hwi hqi HBK HWR HRZ
    unfold fltV
    obtain ⟨x1, x2, x3⟩ := HH9.out.f1
    go_wp2_with fail
    clear hv1 hv2 hss x1 x2 x3
    generalize (w6.alloc (.cells #[.int .i64 0, .int .i64 0] 36)) = w9 at *
    clear HFF HLEN HBACK HZERO
    have hKlt : K < w9.heap.size := HK9.out.lt
    refine (vastk_any ws rs [] A1 A2 none c1 c2 0 w9).mono ?_
    rintro e w10 ⟨rfl, hb10⟩
    have HX10 := Lib.hid (HX9.out.trans (hb10.mono HX9.out.size))
    have HH10 := Lib.hid (HH9.out.below hb10 HH9.out.lt); have HK10 := Lib.hid (HK9.out.below hb10 HK9.out.lt); have HF10 := Lib.hid (HF9.out.below hb10 HF9.out.lt)
    clear hb10 HX9 HH9 HK9 HF9
    by_cases hbig : 5000 < ws.length ∨ 5000 < rs.length
    · have hvv : (decide (5000 < ws.length) || decide (5000 < rs.length) || decide (5000 < ([] : List Int).length)) = true := by
        simp only [Bool.or_eq_true, decide_eq_true_eq]; omega
      rw [hvv]
      clear hbig hvv
      go_wp2_with fail
      go_ret
      exact ⟨rfl, HX10.out⟩
    have hs1 : ws.length ≤ 5000 := by omega
    have hs2 : rs.length ≤ 5000 := by omega
    have hvv : (decide (5000 < ws.length) || decide (5000 < rs.length) || decide (5000 < ([] : List Int).length)) = false := by
      simp only [Bool.or_eq_false_iff, decide_eq_false_iff_not, List.length_nil]; omega
    rw [hvv]
    clear hvv hbig
    obtain ⟨x1, x2, x3⟩ := HH10.out.f1
    go_wp2_with fail
    refine (write_any ws rs A1 A2 c1 c2 w10 (HI1.out.below HX10.out) hcap1 HW.out (by omega) (HI2.out.below HX10.out) HR.out (by omega)).mono ?_
    rintro e w11 ⟨hb11, hcase⟩
    have HX11 := Lib.hid (HX10.out.trans (hb11.mono HX10.out.size))
    have HH11 := Lib.hid (HH10.out.below hb11 HH10.out.lt); have HK11 := Lib.hid (HK10.out.below hb11 HK10.out.lt); have HF11 := Lib.hid (HF10.out.below hb11 HF10.out.lt)
    clear hb11 x1 x2 x3 HX10 HH10 HK10 HF10
    obtain ⟨z1, z2, z3, z4, z5⟩ := HF11.out.f2
    rcases hcase with ⟨h0, rfl⟩ | ⟨h0, bw, cw, rfl, hbw, hrw⟩
    · have hc2 : ((wrF ws rs).1 != 0) = true := by simpa using h0
      clear h0
      unfold fltV
      go_wp2_with fail
      go_ret
      exact ⟨rfl, (HX11.out.setCell (by dsimp only; omega) _).setCell (by dsimp only; omega) _⟩
    have hrr : (rootsF ws rs).1 = 0 ∧ rs.length ≤ 600 := wrF_zero h0
    have HBK := Lib.hid (img_fore hrr.1 hrr.2)
    have himl : (imgB ws rs).length ≤ 1000000 := by
      unfold imgB
      rw [List.length_append, List.length_append]
      have h1 := listB_len HW.out (by omega : ws.length ≤ 1000000); have h2 := listB_len HR.out (by omega : rs.length ≤ 1000000)
      show 2 + _ + _ ≤ _; omega
    have hpos : 0 < (imgB ws rs).length := by unfold imgB; simp
    have hbwF : bw ≠ F := fun e => by
      subst e
      have a := hrw 0 hpos
      rw [Nat.add_zero, z1] at a
      cases a
    have hfz : Blk ((w11.setCell ⟨F, 0, none⟩ (.int .i64 0)).setCell ⟨F, 1, none⟩ (.int .i64 0)) F 36 #[.int .i64 0, .int .i64 0] := by
      have := (HF11.out.set_ 0 (.int .i64 0)).set_ 1 (.int .i64 0)
      simpa using this
    have HF12 := Lib.hid hfz
    have HX12 := Lib.hid ((HX11.out.setCell (p := ⟨F, 0, none⟩) (by dsimp only; omega) (.int .i64 0)).setCell (p := ⟨F, 1, none⟩) (by dsimp only; omega) (.int .i64 0))
    have HH12 := Lib.hid ((HH11.out.far (p := ⟨F, 0, none⟩) (by dsimp only; omega) (.int .i64 0)).far (p := ⟨F, 1, none⟩) (by dsimp only; omega) (.int .i64 0))
    have HK12 := Lib.hid ((HK11.out.far (p := ⟨F, 0, none⟩) (by dsimp only; omega) (.int .i64 0)).far (p := ⟨F, 1, none⟩) (by dsimp only; omega) (.int .i64 0))
    have hrow12 : RowU ((w11.setCell ⟨F, 0, none⟩ (.int .i64 0)).setCell ⟨F, 1, none⟩ (.int .i64 0)) bw 0 (imgB ws rs) := (hrw.setF (p := ⟨F, 0, none⟩) hbwF (.int .i64 0)).setF (p := ⟨F, 1, none⟩) hbwF (.int .i64 0)
    have hbw12 : bw < ((w11.setCell ⟨F, 0, none⟩ (.int .i64 0)).setCell ⟨F, 1, none⟩ (.int .i64 0)).heap.size := by simpa [World.setCell] using hbw
    have HRW12 := Lib.hid hrow12
    clear hfz hrow12 hrw hbw h0 HX11 HH11 HK11 HF11
    unfold fltV
    go_wp2_with fail
    clear z1 z2 z3 z4 z5
    generalize ((w11.setCell ⟨F, 0, none⟩ (.int .i64 0)).setCell ⟨F, 1, none⟩ (.int .i64 0)) = w12 at *
    refine (read_any (imgB ws rs) (some ⟨bw, 0, none⟩) cw w12 (fun _ => ⟨bw, 0, rfl, hbw12, HRW12.out⟩) (by omega) (imgB_range HW.out HR.out ws rs)).mono ?_
    rintro e w14 ⟨v1, v2, rfl, ho1, ho2, hb14⟩
    rw [HBK.out] at *
    dsimp only at *
    obtain ⟨D1, e1, rfl, -, he1, -⟩ := ho1.form2
    obtain ⟨D2, e2, rfl, -, he2, -⟩ := ho2.form2
    have hk12 : K < w12.heap.size := HK12.out.lt
    have HX14 := Lib.hid (HX12.out.trans (hb14.mono HX12.out.size))
    have HH14 := Lib.hid (HH12.out.below hb14 HH12.out.lt); have HK14 := Lib.hid (HK12.out.below hb14 HK12.out.lt); have HF14 := Lib.hid (HF12.out.below hb14 HF12.out.lt)
    have hk15 : Blk (w14.setCell ⟨K, 0, none⟩ (.slice D1 ws.length e1)) K 33 #[.slice D1 ws.length e1] := HK14.out.set_ 0 _
    have hf15 := HF14.out.far (p := ⟨K, 0, none⟩) (by dsimp only; omega) (.slice D1 ws.length e1)
    have HK15 := Lib.hid hk15; have HF15 := Lib.hid hf15
    have HH15 := Lib.hid (HH14.out.far (p := ⟨K, 0, none⟩) (by dsimp only; omega) (.slice D1 ws.length e1))
    have HX15 := Lib.hid (HX14.out.setCell (p := ⟨K, 0, none⟩) (by dsimp only; omega) (.slice D1 ws.length e1))
    have HJ1 := Lib.hid (own_ints9 (ho1.setCell ⟨K, 0, none⟩ (fun e => by have := (ho1.lt K e).1; omega) (.slice D1 ws.length e1))).1
    have HJ2 := Lib.hid (own_ints9 (ho2.setCell ⟨K, 0, none⟩ (fun e => by have := (ho2.lt K e).1; omega) (.slice D1 ws.length e1))).1
    have q0 : (w14.setCell ⟨K, 0, none⟩ (.slice D1 ws.length e1)).setCell ⟨F, 0, none⟩ (.int .i64 0) = w14.setCell ⟨K, 0, none⟩ (.slice D1 ws.length e1) := setCell_same hf15 rfl
    have q1 : (w14.setCell ⟨K, 0, none⟩ (.slice D1 ws.length e1)).setCell ⟨F, 1, none⟩ (.int .i64 0) = w14.setCell ⟨K, 0, none⟩ (.slice D1 ws.length e1) := setCell_same hf15 rfl
    obtain ⟨z1, z2, z3⟩ := HK14.out.f1
    obtain ⟨y1, y2, y3, y4, y5⟩ := HF14.out.f2
    obtain ⟨x1, x2, x3⟩ := HH14.out.f1
    clear hb14 ho1 ho2 hk15 hf15 HX12 HH12 HK12 HF12 HX14 HH14 HK14 HF14
    unfold fltV
    go_wp2_with fail
    clear q0 q1 z1 z2 z3 y1 y2 y3 y4 y5 x1 x2 x3
    generalize (w14.setCell ⟨K, 0, none⟩ (.slice D1 ws.length e1)) = w15 at *
    refine (kints_any ws ws D1 A1 e1 c1 w15 HJ1.out (HI1.out.below HX15.out) (by omega)).mono ?_
    rintro e w16 ⟨rfl, m1, rfl⟩
    rw [eqB_self]
    go_wp2_with fail
    refine (kints_any rs rs D2 A2 e2 c2 _ (HJ2.out.drewN m1) ((HI2.out.below HX15.out).drewN m1) (by omega)).mono ?_
    rintro e w17 ⟨rfl, m2, rfl⟩
    rw [eqB_self, World.drewN_drewN]
    obtain ⟨z1, z2, z3, z4, z5⟩ := (HF15.out.drewN (m1 + m2)).f2
    go_wp2_with fail
    go_ret
    exact ⟨rfl, HX15.out.trans (belowN _ _ _)⟩
end Go.Proofs.Ytjpppdacamhhfaa
