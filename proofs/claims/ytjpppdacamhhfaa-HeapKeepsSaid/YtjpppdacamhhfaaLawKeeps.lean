/- What HeapKeeps' code computes. Conditions: the words are numbers of 64 bits. -/
import Derived.Test.YtjpppdacamhhfaaKeepsA
namespace Go.Proofs.Ytjpppdacamhhfaa
open Go.RowKit
set_option linter.unusedVariables false

set_option maxRecDepth 100000 in
set_option maxHeartbeats 4000000 in
theorem heapKeeps_walk (ws : List Int) (A : Option Addr) (c : Nat) (x at_ what : Int) (w : World) (hA : Ints w A ws) (hcap : ws.length ≤ c) (hw : I64 ws) (hl : ws.length ≤ 9223372036854775807)
    (c1 : -9223372036854775808 ≤ x) (c2 : x ≤ 9223372036854775807) (f1 : -9223372036854775808 ≤ at_) (f2 : at_ ≤ 9223372036854775807) (s1 : -9223372036854775808 ≤ what) (s2 : what ≤ 9223372036854775807) :
    Calls Try.prog 11 #[.agg #[.slice A ws.length c], .int .i64 x, .int .i64 at_, .int .i64 what] w fun e w' => e = .returned (.bool true) ∧ Below w.heap.size w w' := by
  have HA := Lib.hid (hA.alloc (.cells #[.slice A ws.length c] 33)); clear hA
  have HW := Lib.hid hw; clear hw
  have HH := Lib.hid (Blk.new w 33 #[.slice A ws.length c])
  have HB0 := Lib.hid ((Below.refl w.heap.size w).alloc (Nat.le_refl _) (.cells #[.slice A ws.length c] 33))
  have HI0 : Hid (Ints ((w.alloc (.cells #[.slice A ws.length c] 33)).alloc (.cells #[.int .i64 0, .int .i64 1] 3)) (some ⟨w.heap.size + 1, 0, none⟩) [0, 1]) := by
    show Ints _ _ _
    have := ints_new (w.alloc (.cells #[.slice A ws.length c] 33)) [0, 1]
    simpa using this
  have HB0' := Lib.hid (HB0.out.alloc HB0.out.size (.cells #[.int .i64 0, .int .i64 1] 3))
  go_enter Try.func11, Try.ntmps11
  go_wp2_with fail
  refine (new_any [0, 1] (some ⟨w.heap.size + 1, 0, none⟩) 2 0 0 1 _ HI0.out (by simp) i64_tiny (by simp) (by omega) (by omega) (by omega) (by omega) (by omega) (by omega)).mono ?_
  rintro e w1 ⟨hb1, A1, k1, rfl, hown1⟩
  rw [tiny_new] at hown1 ⊢
  have HB1 := Lib.hid (HB0'.out.trans (hb1.mono HB0'.out.size))
  have HA1 := Lib.hid ((HA.out.alloc (.cells #[.int .i64 0, .int .i64 1] 3)).below hb1)
  have HH1 := Lib.hid ((HH.out.alloc (.cells #[.int .i64 0, .int .i64 1] 3)).below hb1 (HH.out.alloc _).lt)
  clear hb1 hown1
  obtain ⟨x1, x2, x3⟩ := HH1.out.f1
  by_cases hbig : 5000 < ws.length
  · go_wp2
    go_ret
    exact ⟨rfl, HB1.out.alloc HB1.out.size _⟩
  go_wp2_with fail
  have HB1' := Lib.hid (HB1.out.alloc HB1.out.size (.cells #[.slice A1 6 k1] 33))
  refine (put_any ws A c x at_ what _ (HA1.out.alloc _) hcap HW.out hl c1 c2 f1 f2 s1 s2).mono ?_
  rintro e w2 ⟨hb2, A2, k2, rfl, hown2⟩
  obtain ⟨hi2, _, hk2⟩ := own_ints hown2
  have HB2 := Lib.hid (HB1'.out.trans (hb2.mono HB1'.out.size))
  have HA2 := Lib.hid ((HA1.out.alloc (.cells #[.slice A1 6 k1] 33)).below hb2)
  have HJ2 := Lib.hid hi2
  have HH2 := Lib.hid ((HH1.out.alloc (.cells #[.slice A1 6 k1] 33)).below hb2 (HH1.out.alloc _).lt)
  clear hb2 hown2 hi2 x1 x2 x3
  obtain ⟨x1, x2, x3⟩ := HH2.out.f1
  by_cases hr : (putOut ws x at_ what).2 = 0
  · have hok : okB ws = true := by
      unfold putOut at hr
      split at hr
      · assumption
      · cases hr
    have HOK := okB_iff.1 hok
    have hpe : putE ws x at_ what = 0 := by
      unfold putOut putR at hr
      rw [if_pos hok] at hr
      split at hr
      · assumption
      · exact hr
    have hpo : putOut ws x at_ what = (putW ws x at_ what, 0) := by unfold putOut putR; rw [if_pos hok, if_pos hpe]
    rw [hpo] at hk2 HJ2 ⊢
    obtain ⟨k, rfl, hokK, hthK, hIK, hkl, hnk, hcn⟩ := keeps_put HOK hpe HW.out s1 s2
    have hlK := putW_len ws x k what
    have hm5 : ws.length ≤ 2000 := HOK.most
    have h22 : 2 ≤ ws.length := HOK.two
    clear hr hok HOK hpe hpo
    generalize putW ws x (k : Int) what = K at *
    have HOKK := Lib.hid hokK; have HTHK := Lib.hid hthK; have HIK := Lib.hid hIK; have HNK := Lib.hid hnk; have HCN := Lib.hid hcn
    have HLK := Lib.hid hlK
    have hl1 : K.length ≤ ws.length := by omega
    have hl2 : ws.length ≤ K.length := by omega
    clear hokK hthK hIK hnk hcn hlK
    go_wp2_with fail
    have HK := Lib.hid (Blk.new w2 33 #[.slice A2 K.length k2])
    have HB2' := Lib.hid (HB2.out.alloc HB2.out.size (.cells #[.slice A2 K.length k2] 33))
    refine (lookt_any K A2 k2 x _ (HJ2.out.alloc _) hk2 HIK.out (by omega) c1 c2).mono ?_
    intro e w3 h3
    obtain ⟨hb3, A3, k3, rfl, hown3⟩ := lookU_Out h3
    clear h3
    obtain ⟨hi3, _, hk3⟩ := own_ints hown3
    have hlk : lkOut K x = ((nth K (plc x), nth K (plc x + 1), formOf K (plc x)), (slotsL K (plc x), 0)) := by unfold lkOut lkR; rw [if_pos (okB_iff.2 HOKK.out), if_pos HTHK.out]
    rw [hlk] at hi3 hk3 ⊢
    clear hlk
    have hsl := slotsL_le K (plc x)
    dsimp only at hi3 hk3 ⊢
    generalize slotsL K (plc x) = S at *
    have HB3 := Lib.hid (HB2'.out.trans (hb3.mono HB2'.out.size))
    have HA3 := Lib.hid ((HA2.out.alloc (.cells #[.slice A2 K.length k2] 33)).below hb3)
    have HJ3 := Lib.hid ((HJ2.out.alloc (.cells #[.slice A2 K.length k2] 33)).below hb3)
    have HS3 := Lib.hid hi3
    have HH3 := Lib.hid ((HH2.out.alloc (.cells #[.slice A2 K.length k2] 33)).below hb3 (HH2.out.alloc _).lt)
    have HK3 := Lib.hid (HK.out.below hb3 HK.out.lt)
    clear hb3 hown3 hi3 x1 x2 x3
    generalize w2.heap.size = KB at *
    obtain ⟨x1, x2, x3⟩ := HH3.out.f1
    obtain ⟨y1, y2, y3⟩ := HK3.out.f1
    obtain ⟨bs, os, rfl, hbs, hrs⟩ := HS3.out (by omega)
    have hcs := hrs k hkl
    rw [HNK.out] at hcs
    clear hrs
    unfold thingV
    have hne : ((K.length : Int) != (ws.length : Int)) = false := by simp; omega
    go_wp2_with fail
    have hx4 : Below w3.heap.size w3 (w3.alloc (.cells #[.int .i64 (nth K (plc x)), .int .i64 (nth K (plc x + 1)), .int .i64 (formOf K (plc x)), .slice (some ⟨bs, os, none⟩) S.length k3] 48)) := (Below.refl _ _).alloc (Nat.le_refl _) _
    have HT4 := Lib.hid (Blk.new w3 48 #[.int .i64 (nth K (plc x)), .int .i64 (nth K (plc x + 1)), .int .i64 (formOf K (plc x)), .slice (some ⟨bs, os, none⟩) S.length k3])
    generalize hw4 : (w3.alloc (.cells #[.int .i64 (nth K (plc x)), .int .i64 (nth K (plc x + 1)), .int .i64 (formOf K (plc x)), .slice (some ⟨bs, os, none⟩) S.length k3] 48)) = w4 at *
    clear hw4
    have HB4 := Lib.hid (HB3.out.trans (hx4.mono HB3.out.size))
    have HA4 := Lib.hid (HA3.out.below hx4)
    have HJ4 := Lib.hid (HJ3.out.below hx4)
    have HH4 := Lib.hid (HH3.out.below hx4 HH3.out.lt)
    have HK4 := Lib.hid (HK3.out.below hx4 HK3.out.lt)
    clear hx4 x1 x2 x3 y1 y2 y3 hcs
    have hTs : w.heap.size ≤ w3.heap.size := HB3.out.size
    generalize w3.heap.size = T at *
    obtain ⟨x1, x2, x3⟩ := HH4.out.f1
    obtain ⟨y1, y2, y3⟩ := HK4.out.f1
    obtain ⟨bK, oK, rfl, hbK, hrK⟩ := HJ4.out (by omega)
    obtain ⟨bA, oA, rfl, hbA, hrA⟩ := HA4.out (by omega)
    have HRK := Lib.hid hrK; have HRA := Lib.hid hrA
    clear hrK hrA
    go_loopw [14, 15] (fun s14 s15 wr => ∃ (j n m : Nat), j ≤ K.length ∧ s14 = .int .i64 n ∧ s15 = .int .i64 j ∧ wr = w4.drewN m ∧ n = cntNe K ws j) (fun _ i _ => K.length - (intOf i).toNat)
    case atStart => exact ⟨0, 0, 0, Nat.zero_le _, rfl, rfl, rfl, rfl⟩
    case round =>
      obtain ⟨j, n, m, hj, rfl, rfl, rfl, hn⟩ := hrel
      have HN := Lib.hid hn
      have hn1 : n ≤ 1 := by rw [hn]; exact HCN.out j
      clear hn
      by_cases hlt : j < K.length
      · have e1 := HRK.out j hlt
        have e2 := HRA.out j (by omega)
        have g1 : (0 : Int) ≤ (j : Int) := by omega
        have g2 : (j : Int) < (K.length : Int) := by omega
        have g3 : (j : Int) < (ws.length : Int) := by omega
        cases he : (nth K j != nth ws j)
        · have he' : nth K j = nth ws j := by simpa using he
          have HE := Lib.hid he'; clear he'
          go_wp2_with fail
          go_quiet (fail)
          go_wp2
          go_roundw
          case rel => exact ⟨j + 1, n, _, by omega, rfl, by go_num, rfl, by unfold cntNe; rw [if_pos HE.out]; exact HN.out⟩
          case measure => simp [intOf]; omega
        · have he' : nth K j ≠ nth ws j := by simpa using he
          have HE := Lib.hid he'; clear he'
          go_wp2_with fail
          go_quiet (fail)
          go_wp2
          go_roundw
          case rel => exact ⟨j + 1, n + 1, _, by omega, by go_num, by go_num, rfl, by unfold cntNe; rw [if_neg HE.out]; have := HN.out; omega⟩
          case measure => simp [intOf]; omega
      · go_wp2_with fail
        refine (new_any K (some ⟨bK, oK, none⟩) k2 x 2 2 _ (HJ4.out.drewN m) hk2 HIK.out (by omega) c1 c2 (by omega) (by omega) (by omega) (by omega)).mono ?_
        rintro e w5 ⟨hb5, A5, k5, rfl, hown5⟩
        have hno : newOut K x 2 2 = newR K x 2 2 := by unfold newOut; rw [if_pos (okB_iff.2 HOKK.out)]
        rw [hno] at hown5 ⊢
        clear hno
        have hb45 : Below w4.heap.size w4 w5 := (belowN _ _ m).trans hb5
        have HB5 := Lib.hid (HB4.out.trans (hb45.mono HB4.out.size))
        have HK5 := Lib.hid (HK4.out.below hb45 HK4.out.lt)
        have HT5 := Lib.hid (HT4.out.below hb45 HT4.out.lt)
        have HRK5 := Lib.hid (HRK.out.below hb45 hbK)
        have hbK5 : bK < w5.heap.size := Nat.lt_of_lt_of_le hbK hb45.size
        clear hb5 hb45 x1 x2 x3 y1 y2 y3
        obtain ⟨y1, y2, y3⟩ := HK5.out.f1
        obtain ⟨t0, t1, t2, t3, t4, t5, t6, t7, t8⟩ := HT5.out.f4
        rcases keeps_new HOKK.out HTHK.out HIK.out c1 c2 with h6 | ⟨h6, hM, hIM, hthM, hcM, hfM, hsM, hdM, hlM, hmM⟩
        · have hnr : newR K x 2 2 = ([], 0, 6) := by unfold newR; rw [if_neg (by rw [h6]; decide), h6]
          rw [hnr] at hown5 ⊢
          clear h6 hnr
          go_wp2
          go_ret
          exact ⟨rfl, HB5.out.alloc HB5.out.size _⟩
        · have hnr : newR K x 2 2 = (newW K x 2 2, 2 * (K.length : Int), 0) := by unfold newR; rw [if_pos h6]
          rw [hnr] at hown5 ⊢
          clear h6 hnr
          generalize newW K x 2 2 = M at *
          dsimp only at hown5 ⊢
          obtain ⟨g5, rfl, hg5, hg5', _, hk5⟩ := hown5.some_ (by omega)
          obtain ⟨hi5, _, _⟩ := own_ints hown5
          have HM := Lib.hid hM; have HIM := Lib.hid hIM; have HTM := Lib.hid hthM; have HCM := Lib.hid hcM; have HFM := Lib.hid hfM; have HSM := Lib.hid hsM; have HDM := Lib.hid hdM; have HLM := Lib.hid hlM; have HI5 := Lib.hid hi5
          have l1 : M.length ≤ K.length + 5 := by omega
          have l2 : K.length + 5 ≤ M.length := by omega
          clear hM hIM hthM hcM hfM hsM hdM hlM hown5 hi5
          go_wp2_with fail
          have hx6 : Below w5.heap.size w5 (w5.alloc (.cells #[.slice (some ⟨g5, 0, none⟩) M.length k5] 33)) := (Below.refl _ _).alloc (Nat.le_refl _) _
          have HMB := Lib.hid (Blk.new w5 33 #[.slice (some ⟨g5, 0, none⟩) M.length k5])
          generalize hw6 : (w5.alloc (.cells #[.slice (some ⟨g5, 0, none⟩) M.length k5] 33)) = w6 at *
          clear hw6
          have HB6 := Lib.hid (HB5.out.trans (hx6.mono HB5.out.size))
          have HI6 := Lib.hid (HI5.out.below hx6)
          have HK6 := Lib.hid (HK5.out.below hx6 HK5.out.lt)
          have HT6 := Lib.hid (HT5.out.below hx6 HT5.out.lt)
          have HRK6 := Lib.hid (HRK5.out.below hx6 hbK5)
          have hg6 : g5 < w6.heap.size := Nat.lt_of_lt_of_le hg5' hx6.size
          have hbK6 : bK < w6.heap.size := Nat.lt_of_lt_of_le hbK5 hx6.size
          clear hx6 y1 y2 y3 t0 t1 t2 t3 t4 t5 t6 t7 t8
          generalize w5.heap.size = MB at *
          obtain ⟨y1, y2, y3⟩ := HK6.out.f1
          obtain ⟨z1, z2, z3⟩ := HMB.out.f1
          obtain ⟨t0, t1, t2, t3, t4, t5, t6, t7, t8⟩ := HT6.out.f4
          have hrM : Row w6 g5 0 M := by
            obtain ⟨b', o', e, _, hr⟩ := HI6.out (by omega)
            cases e; exact hr
          have hiM : Ints w6 (some ⟨g5, 2, none⟩) (K.drop 2) := fun _ => ⟨g5, 2, rfl, hg6, by have := (hrM.drop_ 2).take_ (K.length - 2); rw [HDM.out] at this; simpa using this⟩
          have hiK : Ints w6 (some ⟨bK, oK + 2, none⟩) (K.drop 2) := fun _ => ⟨bK, oK + 2, rfl, hbK6, HRK6.out.drop_ 2⟩
          have hd : (K.drop 2).length = K.length - 2 := by simp
          have hcall : ∀ n, Calls Try.prog 58 #[.slice (some ⟨g5, 2, none⟩) (K.length - 2) (k5 - 2), .slice (some ⟨bK, oK + 2, none⟩) (K.length - 2) (k2 - 2)] (w6.drewN n) fun e w' => e = .returned (.bool true) ∧ ∃ m, w' = w6.drewN m := fun n => by
            have h := kints_any (K.drop 2) (K.drop 2) (some ⟨g5, 2, none⟩) (some ⟨bK, oK + 2, none⟩) (k5 - 2) (k2 - 2) (w6.drewN n) (hiM.drewN n) (hiK.drewN n) (by rw [hd]; omega)
            rw [hd, eqB_self] at h
            exact quiet_draws h
          have HCALL := Lib.hid hcall
          clear hcall hiM hiK hd hrM
          have b1 : (2 : Int) ≤ (K.length : Int) := by omega
          have b2 : (K.length : Int) ≤ (k5 : Int) := by omega
          have b3 : ¬ k5 = 2 := by omega
          have b4 : ¬ k2 = 2 := by have := HTHK.out; have := (isTh_fit this); have := not_bad this.1; omega
          have b5 : (K.length : Int) ≤ (k2 : Int) := by omega
          have b6 : (0 : Int) ≤ (K.length : Int) := by omega
          go_quiet ((go_at_call 58; exact HCALL.out _))
          go_wp2_with fail
          refine (lookt_any M (some ⟨g5, 0, none⟩) k5 (2 * (K.length : Int)) _ (HI6.out.drewN _) hk5 HIM.out (by omega) (by omega) (by omega)).mono ?_
          intro e w7 h7
          obtain ⟨hb7, A7, k7, rfl, hown7⟩ := lookU_Out h7
          clear h7
          have hlk : lkOut M (2 * (K.length : Int)) = ((x, nth M (plc (2 * (K.length : Int)) + 1), 2), (slotsL M (plc (2 * (K.length : Int))), 0)) := by
            unfold lkOut lkR; rw [if_pos (okB_iff.2 HM.out), if_pos HTM.out, HCM.out, HFM.out]
          rw [hlk] at hown7 ⊢
          clear hlk hown7
          dsimp only
          rw [HSM.out]
          have hb67 : Below w6.heap.size w6 w7 := (belowN _ _ _).trans hb7
          have HB7 := Lib.hid (HB6.out.trans (hb67.mono HB6.out.size))
          have HT7 := Lib.hid (HT6.out.below hb67 HT6.out.lt)
          clear hb7 hb67 y1 y2 y3 z1 z2 z3 t0 t1 t2 t3 t4 t5 t6 t7 t8 b1 b2 b3 b4 b5 b6
          obtain ⟨t0, t1, t2, t3, t4, t5, t6, t7, t8⟩ := HT7.out.f4
          generalize nth M (plc (2 * (K.length : Int)) + 1) = hs at *
          unfold thingV
          go_wp2
          go_ret
          exact ⟨rfl, by repeat (first | exact HB7.out | refine Below.setCell ?_ (by dsimp only; omega) _)⟩
  · have hr1 : ((putOut ws x at_ what).2 != 0) = true := by simpa using hr
    have hr2 : (putOut ws x at_ what).1 = [] := by
      unfold putOut putR at hr ⊢
      split
      · rename_i h; rw [if_pos h] at hr
        split
        · rename_i h'; rw [if_pos h'] at hr; exact absurd rfl hr
        · rfl
      · rfl
    have HR2 := Lib.hid hr2
    rw [hr2] at hk2 HJ2 ⊢
    clear hr hr2
    go_wp2
    go_ret
    exact ⟨rfl, HB2.out.alloc HB2.out.size _⟩
end Go.Proofs.Ytjpppdacamhhfaa
