/- gessoref6's Write. Conditions: the words are numbers of 64 bits. -/
import Derived.Test.YtjpppdacamhhfaaImNw
namespace Go.Proofs.Ytjpppdacamhhfaa
open Go.RowKit
set_option linter.unusedVariables false

theorem OwnU.lit {w : World} (bs : List Int) (hl : bs.length ≤ 1000) (base : Nat) (hb : base ≤ w.heap.size) : OwnU (w.alloc (.cells (bs.map (Value.int .u8)).toArray 5)) base (.slice (some ⟨w.heap.size, 0, none⟩) bs.length bs.length) bs :=
  ⟨by rw [List.length_map, Nat.mul_one], .inr ⟨w.heap.size, bs.length, _, rfl, hb, heap_alloc_new w _, Nat.le_refl _, by simp only [maxLen]; omega, by simp, by rw [Nat.mul_one, List.toList_toArray, List.take_of_length_le (by rw [List.length_map]; exact Nat.le_refl _)]⟩⟩
theorem numBs_snoc {l : List Int} {j : Nat} (h : j < l.length) : (l.take (j + 1)).flatMap numB = (l.take j).flatMap numB ++ numB (nth l j) := by
  rw [List.take_succ_eq_append_getElem h, List.flatMap_append, ← nth_eq h]
  simp

set_option maxRecDepth 100000 in
set_option maxHeartbeats 4000000 in
theorem rwrite_any (ws rs : List Int) (A B : Option Addr) (c d : Nat) (w : World) (hA : Ints w A ws) (hw : I64 ws) (hl : ws.length ≤ 1000000) (hB : Ints w B rs) (hr : I64 rs) (hrl : rs.length ≤ 1000000) :
    Calls Try.prog 71 #[.agg #[.slice A ws.length c], .slice B rs.length d] w fun e w' => ∃ v, e = .returned v ∧ OwnU w' w.heap.size v (imgB ws rs) ∧ Below w.heap.size w w' := by
  have hx1 : Below w.heap.size w ((w.alloc (.cells #[.slice A ws.length c] 33)).alloc (.cells #[.int .u8 71, .int .u8 69] 5)) := ((Below.refl _ _).alloc (Nat.le_refl _) _).alloc (by simp) _
  have hh1 : Blk ((w.alloc (.cells #[.slice A ws.length c] 33)).alloc (.cells #[.int .u8 71, .int .u8 69] 5)) w.heap.size 33 #[.slice A ws.length c] := (Blk.new _ _ _).alloc _
  have ho1 : OwnU ((w.alloc (.cells #[.slice A ws.length c] 33)).alloc (.cells #[.int .u8 71, .int .u8 69] 5)) (w.heap.size + 1) (.slice (some ⟨w.heap.size + 1, 0, none⟩) 2 2) [71, 69] := by
    have h := OwnU.lit (w := w.alloc (.cells #[.slice A ws.length c] 33)) [71, 69] (by simp) (w.heap.size + 1) (by simp)
    rw [World.size_alloc] at h
    exact h
  have HX1 := Lib.hid hx1; have HH1 := Lib.hid hh1; have HO1 := Lib.hid ho1
  have HA := Lib.hid hA; have HB := Lib.hid hB; have HW := Lib.hid hw; have HR := Lib.hid hr
  have HM := Lib.hid (fun j => numBs_len (l := ws.take j) (fun x hx' => hw.mem x (List.mem_of_mem_take hx')))
  have HMR := Lib.hid (fun j => numBs_len (l := rs.take j) (fun x hx' => hr.mem x (List.mem_of_mem_take hx')))
  obtain ⟨x1, x2, x3⟩ := hh1.f1
  have hn1 := numB_len (n := (ws.length : Int)) (by omega) (by omega)
  have hn2 := numB_len (n := (rs.length : Int)) (by omega) (by omega)
  clear hx1 hh1 ho1 hA hB hw hr
  go_enter Try.func71, Try.ntmps71
  go_wp2_with fail
  clear x1 x2 x3
  generalize ((w.alloc (.cells #[.slice A ws.length c] 33)).alloc (.cells #[.int .u8 71, .int .u8 69] 5)) = w1 at *
  refine (number_any (ws.length : Nat) w1 (by omega) (by omega)).mono ?_
  rintro e w2 ⟨v2, rfl, ho2, hb2⟩
  obtain ⟨A2, c2, rfl, hi2, -, -⟩ := ho2.form2
  have hN1 : w.heap.size + 1 ≤ w1.heap.size := HH1.out.lt
  have HI2 := Lib.hid hi2
  have HO2 := Lib.hid (HO1.out.below hb2 (fun k hk => (HO1.out.lt k hk).2))
  have HX2 := Lib.hid (HX1.out.trans (hb2.mono (by omega)))
  have HH2 := Lib.hid (HH1.out.below hb2 HH1.out.lt)
  have hz2 : w.heap.size + 1 ≤ w2.heap.size := HH2.out.lt
  have hl2 : ([71, 69] : List Int).length + (numB (ws.length : Int)).length ≤ 1000000000 := by show 2 + _ ≤ _; omega
  clear hi2 ho2 hb2 HO1 HX1 HH1
  go_wp2_with (at_builtin; refine wpList_joinNU rfl _ _ rfl (w.heap.size + 1) _ [71, 69] rfl HO2.out A2 c2 (numB (ws.length : Int)) rfl HI2.out hl2 hz2 ?_; intro A3 n3 cap3 w3 hown3 hgr3; have HO3 := Lib.hid hown3; have HX3 := Lib.hid (HX2.out.grown hgr3 (by omega) (fun q hq => Nat.le_of_succ_le (HO2.out.lt q hq).1)); have HH3 := Lib.hid (HH2.out.grown hgr3 (fun e => absurd (HO2.out.lt _ e.symm).1 (Nat.not_succ_le_self _))); clear hown3 hgr3)
  go_loopw [5, 7] (fun v i wr => ∃ j : Nat, i = .int .i64 (j : Int) ∧ j ≤ ws.length ∧ OwnU wr (w.heap.size + 1) v ([71, 69] ++ numB (ws.length : Int) ++ (ws.take j).flatMap numB) ∧ Below w.heap.size w wr ∧ Blk wr w.heap.size 33 #[.slice A ws.length c]) (fun _ i _ => ws.length - (intOf i).toNat)
  case atStart => exact ⟨0, rfl, Nat.zero_le _, by rw [List.take_zero, List.flatMap_nil, List.append_nil]; exact HO3.out, HX3.out, HH3.out⟩
  case round =>
    obtain ⟨j, rfl, hj, hown, hbw, hblk⟩ := hrel
    have HO := Lib.hid hown; have HBW := Lib.hid hbw; have HBK := Lib.hid hblk
    have hzr : w.heap.size + 1 ≤ wr.heap.size := hblk.lt
    obtain ⟨x1, x2, x3⟩ := hblk.f1
    clear hown hbw hblk HO3 HX3 HH3
    by_cases hjl : j < ws.length
    · obtain ⟨b1, o1, hA1, -, r1⟩ := (HA.out.below HBW.out) (by omega)
      subst hA1
      have e1 := r1 j hjl
      have hx1 := HW.out j
      have HSN := Lib.hid (numBs_snoc hjl)
      have hnl := numB_len hx1.1 hx1.2
      have hal : ([71, 69] ++ numB (ws.length : Int) ++ (ws.take j).flatMap numB).length + (numB (nth ws j)).length ≤ 1000000000 := by
        have h1 := HM.out j
        have h2 := List.length_take_le j ws
        rw [List.length_append]
        have h3 := (show ([71, 69] ++ numB (ws.length : Int)).length ≤ 12 by rw [List.length_append]; show 2 + _ ≤ _; omega)
        omega
      clear r1
      go_wp2_with fail
      clear x1 x2 x3 e1
      refine (number_any (nth ws j) wr hx1.1 hx1.2).mono ?_
      rintro e w5 ⟨v5, rfl, ho5, hb5⟩
      obtain ⟨A5, c5, rfl, hi5, -, -⟩ := ho5.form2
      have HI5 := Lib.hid hi5
      have HO5 := Lib.hid (HO.out.below hb5 (fun k hk => (HO.out.lt k hk).2))
      have HX5 := Lib.hid (HBW.out.trans (hb5.mono (by omega)))
      have HH5 := Lib.hid (HBK.out.below hb5 HBK.out.lt)
      have hz5 : w.heap.size + 1 ≤ w5.heap.size := HH5.out.lt
      clear hi5 ho5 hb5 HO HBW HBK
      go_wp2_with (at_builtin; refine wpList_joinNU rfl _ _ rfl (w.heap.size + 1) _ ([71, 69] ++ numB (ws.length : Int) ++ (ws.take j).flatMap numB) rfl HO5.out A5 c5 (numB (nth ws j)) rfl HI5.out hal hz5 ?_; intro A6 n6 cap6 w6 hown6 hgr6; have HO6 := Lib.hid hown6; have HX6 := Lib.hid (HX5.out.grown hgr6 (by omega) (fun q hq => Nat.le_of_succ_le (HO5.out.lt q hq).1)); have HH6 := Lib.hid (HH5.out.grown hgr6 (fun e => absurd (HO5.out.lt _ e.symm).1 (Nat.not_succ_le_self _))); clear hown6 hgr6)
      go_roundw
      case rel => exact ⟨j + 1, by go_num, by omega, by rw [HSN.out, ← List.append_assoc]; exact HO6.out, HX6.out, HH6.out⟩
      case measure => simp [intOf]; omega
    · obtain rfl : j = ws.length := by omega
      have ho := HO.out
      rw [List.take_length] at ho
      have HO7 := Lib.hid ho
      clear ho
      have hpre : ([71, 69] ++ numB (ws.length : Int) ++ ws.flatMap numB).length ≤ 10000012 := by
        have h1 := HM.out ws.length
        rw [List.take_length] at h1
        rw [List.length_append, List.length_append]; show 2 + _ + _ ≤ _; omega
      have HX7 := HBW; have HH7 := HBK
      generalize hP : [71, 69] ++ numB (ws.length : Int) ++ ws.flatMap numB = P at *
      have HP := Lib.hid hP
      clear hP
      go_wp2_with fail
      clear x1 x2 x3
      refine (number_any (rs.length : Nat) wr (by omega) (by omega)).mono ?_
      rintro e w2 ⟨v2, rfl, ho2, hb2⟩
      obtain ⟨A2, c2, rfl, hi2, -, -⟩ := ho2.form2
      have HI2 := Lib.hid hi2
      have HO2 := Lib.hid (HO7.out.below hb2 (fun k hk => (HO7.out.lt k hk).2))
      have HX2 := Lib.hid (HX7.out.trans (hb2.mono (by omega)))
      have HH2 := Lib.hid (HH7.out.below hb2 HH7.out.lt)
      have hz2 : w.heap.size + 1 ≤ w2.heap.size := HH2.out.lt
      have hl2 : P.length + (numB (rs.length : Int)).length ≤ 1000000000 := by omega
      clear hi2 ho2 hb2 HO7 HX7 HH7 HO HBW HBK
      go_wp2_with (at_builtin; refine wpList_joinNU rfl _ _ rfl (w.heap.size + 1) _ P rfl HO2.out A2 c2 (numB (rs.length : Int)) rfl HI2.out hl2 hz2 ?_; intro A3 n3 cap3 w3 hown3 hgr3; have HO3 := Lib.hid hown3; have HX3 := Lib.hid (HX2.out.grown hgr3 (by omega) (fun q hq => Nat.le_of_succ_le (HO2.out.lt q hq).1)); have HH3 := Lib.hid (HH2.out.grown hgr3 (fun e => absurd (HO2.out.lt _ e.symm).1 (Nat.not_succ_le_self _))); clear hown3 hgr3)
      go_loopw [5, 8] (fun v i wr => ∃ j : Nat, i = .int .i64 (j : Int) ∧ j ≤ rs.length ∧ OwnU wr (w.heap.size + 1) v (P ++ numB (rs.length : Int) ++ (rs.take j).flatMap numB) ∧ Below w.heap.size w wr ∧ Blk wr w.heap.size 33 #[.slice A ws.length c]) (fun _ i _ => rs.length - (intOf i).toNat)
      case atStart => exact ⟨0, rfl, Nat.zero_le _, by rw [List.take_zero, List.flatMap_nil, List.append_nil]; exact HO3.out, HX3.out, HH3.out⟩
      case round =>
        obtain ⟨j, rfl, hj, hown, hbw, hblk⟩ := hrel
        have HO := Lib.hid hown; have HBW := Lib.hid hbw; have HBK := Lib.hid hblk
        have hzr : w.heap.size + 1 ≤ wr.heap.size := hblk.lt
        obtain ⟨x1, x2, x3⟩ := hblk.f1
        clear hown hbw hblk HO3 HX3 HH3
        by_cases hjl : j < rs.length
        · obtain ⟨b1, o1, hA1, -, r1⟩ := (HB.out.below HBW.out) (by omega)
          subst hA1
          have e1 := r1 j hjl
          have hx1 := HR.out j
          have HSN := Lib.hid (numBs_snoc hjl)
          have hnl := numB_len hx1.1 hx1.2
          have hal : (P ++ numB (rs.length : Int) ++ (rs.take j).flatMap numB).length + (numB (nth rs j)).length ≤ 1000000000 := by
            have h1 := HMR.out j
            have h2 := List.length_take_le j rs
            rw [List.length_append]
            have h3 := (show (P ++ numB (rs.length : Int)).length ≤ 10000022 by rw [List.length_append]; omega)
            omega
          clear r1
          go_wp2_with fail
          clear x1 x2 x3 e1
          refine (number_any (nth rs j) wr hx1.1 hx1.2).mono ?_
          rintro e w5 ⟨v5, rfl, ho5, hb5⟩
          obtain ⟨A5, c5, rfl, hi5, -, -⟩ := ho5.form2
          have HI5 := Lib.hid hi5
          have HO5 := Lib.hid (HO.out.below hb5 (fun k hk => (HO.out.lt k hk).2))
          have HX5 := Lib.hid (HBW.out.trans (hb5.mono (by omega)))
          have HH5 := Lib.hid (HBK.out.below hb5 HBK.out.lt)
          have hz5 : w.heap.size + 1 ≤ w5.heap.size := HH5.out.lt
          clear hi5 ho5 hb5 HO HBW HBK
          go_wp2_with (at_builtin; refine wpList_joinNU rfl _ _ rfl (w.heap.size + 1) _ (P ++ numB (rs.length : Int) ++ (rs.take j).flatMap numB) rfl HO5.out A5 c5 (numB (nth rs j)) rfl HI5.out hal hz5 ?_; intro A6 n6 cap6 w6 hown6 hgr6; have HO6 := Lib.hid hown6; have HX6 := Lib.hid (HX5.out.grown hgr6 (by omega) (fun q hq => Nat.le_of_succ_le (HO5.out.lt q hq).1)); have HH6 := Lib.hid (HH5.out.grown hgr6 (fun e => absurd (HO5.out.lt _ e.symm).1 (Nat.not_succ_le_self _))); clear hown6 hgr6)
          go_roundw
          case rel => exact ⟨j + 1, by go_num, by omega, by rw [HSN.out, ← List.append_assoc]; exact HO6.out, HX6.out, HH6.out⟩
          case measure => simp [intOf]; omega
        · obtain rfl : j = rs.length := by omega
          have ho := HO.out
          rw [List.take_length] at ho
          have HO7 := Lib.hid ho
          clear ho
          go_wp2_with fail
          refine bodyPost_ret (v := u5) (by simp [results, Try.results71, go_sem]) rfl ⟨u5, rfl, ?_, HBW.out⟩
          have h9 := HO7.out.mono (Nat.le_succ w.heap.size)
          have e9 : P ++ numB (rs.length : Int) ++ rs.flatMap numB = imgB ws rs := by
            rw [← HP.out]
            unfold imgB listB
            simp only [List.append_assoc]
          rw [e9] at h9
          exact h9
end Go.Proofs.Ytjpppdacamhhfaa
