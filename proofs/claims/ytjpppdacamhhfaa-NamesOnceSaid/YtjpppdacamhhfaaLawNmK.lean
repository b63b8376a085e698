/- What NamesKeep's code computes. Conditions: the words are numbers of 64 bits. -/
import Derived.Test.YtjpppdacamhhfaaNmJ
import Derived.Test.YtjpppdacamhhfaaNmK
namespace Go.Proofs.Ytjpppdacamhhfaa
open Go.RowKit
set_option linter.unusedVariables false

theorem bad_all {ws : List Int} {x sz : Int} {tx : ByteArray} (h : (checkF ws).1 ≠ 0) : intF ws x tx = ([], 0, 7) ∧ findF ws x tx = (0, 7) ∧ allF ws x = ([], 7) ∧ tabF ws sz = ([], 0, 7) := by
  have h1 : askE ws x tx = 7 := by unfold askE; rw [if_pos h]
  have h2 : seeE ws x = 7 := by unfold seeE; rw [if_pos h]
  have h3 : okB ws = false := by unfold okB; simpa using h
  refine ⟨?_, ?_, ?_, ?_⟩
  · unfold intF; rw [h1]; rfl
  · unfold findF; rw [h1]; rfl
  · unfold allF; rw [h2]; rfl
  · unfold tabF; rw [h3]; rfl
theorem no_tab {ws : List Int} {x : Int} {tx : ByteArray} (h0 : (checkF ws).1 = 0) (h : tabB ws x = false) : intF ws x tx = ([], 0, 3) ∧ findF ws x tx = (0, 3) ∧ allF ws x = ([], 3) := by
  have h1 : askE ws x tx = 3 := by unfold askE; rw [if_neg (not_not_intro h0), if_pos h]
  have h2 : seeE ws x = 3 := by unfold seeE; rw [if_neg (not_not_intro h0), if_pos h]
  refine ⟨?_, ?_, ?_⟩
  · unfold intF; rw [h1]; rfl
  · unfold findF; rw [h1]; rfl
  · unfold allF; rw [h2]; rfl
theorem big_text {ws : List Int} {x : Int} {tx : ByteArray} (h0 : (checkF ws).1 = 0) (h : tabB ws x = true) (hb : 60 < tx.size) : intF ws x tx = ([], 0, 1) ∧ findF ws x tx = (0, 1) := by
  have h1 : askE ws x tx = 1 := by unfold askE; rw [if_neg (not_not_intro h0), if_neg (by rw [h]; decide), if_pos hb]
  refine ⟨?_, ?_⟩
  · unfold intF; rw [h1]; rfl
  · unfold findF; rw [h1]; rfl
theorem all_good {ws : List Int} {x : Int} (h0 : (checkF ws).1 = 0) (h : tabB ws x = true) : allF ws x = (allT ws x, 0) := by
  have h2 : seeE ws x = 0 := by unfold seeE; rw [if_neg (not_not_intro h0), if_neg (by rw [h]; decide)]
  unfold allF; rw [h2]; rfl
theorem text_good {ws : List Int} {x : Int} {tx : ByteArray} (h0 : (checkF ws).1 = 0) (h : tabB ws x = true) (hb : tx.size ≤ 60) : intF ws x tx = intT ws x tx ∧ findF ws x tx = findT ws x tx := by
  have h1 := askE_good h0 h hb
  unfold intF findF
  rw [if_pos h1, if_pos h1]; exact ⟨rfl, rfl⟩
theorem own_pack {w : World} {base n c : Nat} {A : Option Addr} {xs : List Int} (h : Own w base (.slice A n c) xs) : Ints w A xs := (own_ints9b h).1
theorem ownS_pack {w : World} {base n c : Nat} {A : Option Addr} {xs : List ByteArray} (h : OwnS w base (.slice A n c) xs) : IntsS w A xs := by
  obtain ⟨A', c', e, h1, -, -⟩ := h.form2
  injection e with e1
  subst e1
  exact h1
theorem ints_set {w : World} {A V : Option Addr} {xs : List Int} {g n k : Nat} {t : TypeId} (h : Ints w A xs) (hb : Blk w g t #[.slice V n k]) (v : Value) : Ints (w.setCell ⟨g, 0, none⟩ v) A xs := fun hx => by
  obtain ⟨b, o, rfl, hlt, hr⟩ := h hx
  have hne : b ≠ g := by
    rintro rfl
    have h0 := hr 0 hx
    rw [hb.cell] at h0
    cases o <;> simp at h0
  exact ⟨b, o, rfl, by simpa using hlt, fun j hj => (World.cell?_of_block (a := ⟨b, o + j, none⟩) (Below.heap_setCell _ _ _ _ hne)).trans (hr j hj)⟩
theorem allT_len (ws : List Int) (x : Int) (hok : OkH ws) (ht : tabB ws x = true) : (allT ws x).length ≤ 60 := by
  have h1 := someT_len ws x (slotsN ws (pcl x))
  have hpb := (places_mem (q := pcl x) (isTh_mem (tab_parts ht).1).1).2.2
  rw [someT_all (by rw [slotsL_len hpb]; exact Nat.le_refl _)] at h1
  have := not_bad hpb
  unfold slotsN at h1; omega
theorem tabF_len {ws : List Int} {sz : Int} : (tabF ws sz).1.length ≤ 4000 + ws.length := by
  unfold tabF newR
  split
  · simp
  · split
    · simp
    · split
      · rw [newW_len]; omega
      · simp
theorem intT_len {ws : List Int} {x : Int} {tx : ByteArray} (hz : tx.size ≤ 60) : (intT ws x tx).1.length ≤ 4000 + ws.length := by
  unfold intT intW
  split
  · simp
  · split
    · dsimp only; omega
    · split
      · dsimp only; rw [List.length_set, layN_len]; omega
      · simp

set_option maxRecDepth 100000 in
set_option maxHeartbeats 4000000 in
theorem namesKeep_walk (ws : List Int) (A : Option Addr) (c : Nat) (x : Int) (tx : ByteArray) (sz : Int) (w : World)
    (hA : Ints w A ws) (hcap : ws.length ≤ c) (hw : I64 ws) (hl : ws.length ≤ 9223372036854775807) (h1 : -9223372036854775808 ≤ x) (h2 : x ≤ 9223372036854775807) (hs : tx.size ≤ 9223372036854775807) (s1 : -9223372036854775808 ≤ sz) (s2 : sz ≤ 9223372036854775807) :
    Calls Try.prog 22 #[.agg #[.slice A ws.length c], .int .i64 x, .string tx, .int .i64 sz] w fun e w' => e = .returned (.bool true) ∧ Below w.heap.size w w' := by
  have hx0 : Below w.heap.size w (w.alloc (.cells #[.slice A ws.length c] 33)) := (Below.refl _ _).alloc (Nat.le_refl _) _
  have HX0 := Lib.hid hx0
  have HA := Lib.hid hA
  have HW := Lib.hid hw
  have HH := Lib.hid (Blk.new w 33 #[.slice A ws.length c])
  clear hx0 hA hw
  by_cases hbig : 5000 < ws.length
  · have hb : (5000 : Int) < (ws.length : Int) := by omega
    go_enter Try.func22, Try.ntmps22
    go_wp2_with fail
    go_ret
    exact ⟨rfl, HX0.out⟩
  have hb : (ws.length : Int) ≤ 5000 := by omega
  have hwn : IntKind.i64.wrap ((tx.size : Nat) : Int) = ((tx.size : Nat) : Int) := IntWalk.i64_in _ (by omega)
  clear hbig
  go_enter Try.func22, Try.ntmps22
  go_wp2_with fail
  generalize (w.alloc (.cells #[.slice A ws.length c] 33)) = w0 at *
  refine (intern_any ws x tx A c w0 (HA.out.below HX0.out) hcap HW.out hl h1 h2 hs).mono ?_
  rintro e w1 ⟨hb1, A1, c1, rfl, ho1⟩
  have hlr1 : (intF ws x tx).1.length ≤ 10000 ∨ 60 < tx.size := by
    by_cases h : 60 < tx.size
    · exact .inr h
    · left
      unfold intF
      split
      · have := intT_len (ws := ws) (x := x) (tx := tx) (by omega); omega
      · simp
  have HLR1 := Lib.hid hlr1
  generalize hr1 : intF ws x tx = r1 at *
  have HR1 := Lib.hid hr1
  have hx1 := hb1.alloc hb1.size (.cells #[.slice A1 r1.1.length c1] 33)
  have HX1 := Lib.hid (HX0.out.trans (hx1.mono HX0.out.size))
  have HH1 := Lib.hid (HH.out.below hx1 HH.out.lt)
  have HK1 := Lib.hid (Blk.new w1 33 #[.slice A1 r1.1.length c1])
  have HI1 := Lib.hid ((own_pack ho1).alloc (.cells #[.slice A1 r1.1.length c1] 33))
  obtain ⟨x1, x2, x3⟩ := HH1.out.f1
  clear hb1 hr1 hx1 ho1 HX0 HH hlr1
  go_wp2_with fail
  generalize (w1.alloc (.cells #[.slice A1 r1.1.length c1] 33)) = w2 at *
  generalize w1.heap.size = K at *
  refine (find_any ws x tx A c w2 (HA.out.below HX1.out) hcap HW.out hl h1 h2 hs).mono ?_
  rintro e w3 ⟨rfl, hb3⟩
  generalize hr2 : findF ws x tx = r2 at *
  have HR2 := Lib.hid hr2
  have HX3 := Lib.hid (HX1.out.trans (hb3.mono HX1.out.size))
  have HH3 := Lib.hid (HH1.out.below hb3 HH1.out.lt); have HK3 := Lib.hid (HK1.out.below hb3 HK1.out.lt)
  have HI3 := Lib.hid (HI1.out.below hb3)
  clear hb3 hr2 x1 x2 x3 HX1 HH1 HK1 HI1
  obtain ⟨x1, x2, x3⟩ := HH3.out.f1
  go_wp2_with fail
  refine (all_any ws x A c w3 (HA.out.below HX3.out) hcap HW.out hl h1 h2).mono ?_
  rintro e w4 ⟨hb4, A4, c4, rfl, ho4⟩
  generalize hr3 : allF ws x = r3 at *
  have HR3 := Lib.hid hr3
  have HX4 := Lib.hid (HX3.out.trans (hb4.mono HX3.out.size))
  have HH4 := Lib.hid (HH3.out.below hb4 HH3.out.lt); have HK4 := Lib.hid (HK3.out.below hb4 HK3.out.lt)
  have HI4 := Lib.hid (HI3.out.below hb4); have HS4 := Lib.hid (ownS_pack ho4)
  clear hb4 hr3 ho4 x1 x2 x3 HX3 HH3 HK3 HI3
  obtain ⟨x1, x2, x3⟩ := HH4.out.f1
  go_wp2_with fail
  refine (table_any ws A c sz w4 (HA.out.below HX4.out) hcap HW.out hl s1 s2).mono ?_
  rintro e w5 ⟨hb5, A5, c5, rfl, ho5⟩
  have hlr4 := tabF_len (ws := ws) (sz := sz)
  have HLR4 := Lib.hid hlr4
  generalize hr4 : tabF ws sz = r4 at *
  have HR4 := Lib.hid hr4
  have hx5 := hb5.alloc hb5.size (.cells #[.slice A5 r4.1.length c5] 33)
  have HX5 := Lib.hid (HX4.out.trans (hx5.mono HX4.out.size))
  have HH5 := Lib.hid (HH4.out.below hx5 HH4.out.lt); have HK5 := Lib.hid (HK4.out.below hx5 HK4.out.lt)
  have HI5 := Lib.hid (HI4.out.below hx5)
  have HS5 : Hid (IntsS (w5.alloc (.cells #[.slice A5 r4.1.length c5] 33)) A4 r3.1) := HS4.out.below hx5
  have HM5 := Lib.hid (Blk.new w5 33 #[.slice A5 r4.1.length c5])
  have HJ5 := Lib.hid ((own_pack ho5).alloc (.cells #[.slice A5 r4.1.length c5] 33))
  clear hb5 hr4 ho5 x1 x2 x3 HX4 HH4 HK4 HI4 HS4 hx5 hlr4
  obtain ⟨x1, x2, x3⟩ := HH5.out.f1
  go_wp2_with fail
  generalize (w5.alloc (.cells #[.slice A5 r4.1.length c5] 33)) = w6 at *
  generalize w5.heap.size = M at *
  refine (rcheck_any ws A c w6 (HA.out.below HX5.out) HW.out hl).mono ?_
  rintro e w7 ⟨rfl, hb7⟩
  have hx7 := hb7.alloc hb7.size (.cells #[.int .i64 (checkF ws).1, .int .i64 (checkF ws).2] 36)
  have HX7 := Lib.hid (HX5.out.trans (hx7.mono HX5.out.size))
  have HH7 := Lib.hid (HH5.out.below hx7 HH5.out.lt); have HK7 := Lib.hid (HK5.out.below hx7 HK5.out.lt); have HM7 := Lib.hid (HM5.out.below hx7 HM5.out.lt)
  have HI7 := Lib.hid (HI5.out.below hx7); have HJ7 := Lib.hid (HJ5.out.below hx7)
  have HS7 : Hid (IntsS (w7.alloc (.cells #[.int .i64 (checkF ws).1, .int .i64 (checkF ws).2] 36)) A4 r3.1) := HS5.out.below hx7
  have HF7 := Lib.hid (Blk.new w7 36 #[.int .i64 (checkF ws).1, .int .i64 (checkF ws).2])
  have hA7 := Nat.lt_of_lt_of_le HH5.out.lt hb7.size; have hK7 := Nat.lt_of_lt_of_le HK5.out.lt hb7.size; have hM7 := Nat.lt_of_lt_of_le HM5.out.lt hb7.size
  clear hb7 hx7 x1 x2 x3 HX5 HH5 HK5 HI5 HS5 HM5 HJ5
  unfold fltV
  obtain ⟨x1, x2, x3⟩ := HH7.out.f1
  obtain ⟨y1, y2, y3⟩ := HK7.out.f1
  obtain ⟨z1, z2, z3⟩ := HM7.out.f1
  obtain ⟨v1, v2, v3, v4, v5⟩ := HF7.out.f2
  by_cases hck : (checkF ws).1 = 0
  case neg =>
    obtain ⟨e1, e2, e3, e4⟩ := bad_all (ws := ws) (x := x) (sz := sz) (tx := tx) hck
    have q1 := HR1.out.symm.trans e1; have q2 := HR2.out.symm.trans e2; have q3 := HR3.out.symm.trans e3; have q4 := HR4.out.symm.trans e4
    subst q1; subst q2; subst q3; subst q4
    have hcb : ((checkF ws).1 != 0) = true := by simpa using hck
    simp only [List.length_nil] at *
    clear e1 e2 e3 e4 hck HLR1
    generalize (checkF ws).1 = f1 at *
    go_wp2_with fail
    go_ret
    exact ⟨rfl, HX7.out⟩
  have hok : OkH ws := okB_iff.1 (by unfold okB; simp [hck])
  have hcb : ((checkF ws).1 != 0) = false := by simpa using hck
  have HOK := Lib.hid hok; have HCK := Lib.hid hck
  obtain ⟨l1, l2⟩ : 2 ≤ ws.length ∧ ws.length ≤ 2000 := ⟨hok.two, hok.most⟩
  obtain ⟨b, o, rfl, hlt, hrow⟩ := HA.out (by omega)
  have HROW := Lib.hid hrow
  have HT4 : Hid (tabF ws sz = if sz < 1 ∨ 60 < sz then ([], 0, 4) else newR ws 0 0 sz) := by show _ = _; unfold tabF; rw [okB_iff.2 hok]; rfl
  clear hok hck hrow
  generalize hf1 : (checkF ws).1 = f1 at *
  have HF1 := Lib.hid hf1
  have HS87 : Hid ((w7.alloc (.cells #[.int .i64 f1, .int .i64 ((checkF ws).2 : Int)] 36)).heap.size = w7.heap.size + 1) := by show _ = _; rw [World.size_alloc]
  clear hf1
  have h3 : sz < 1 ∨ (1 ≤ sz ∧ 60 < sz) ∨ (1 ≤ sz ∧ sz ≤ 60) := by omega
  rcases h3 with g1 | ⟨g1, g2⟩ | ⟨g1, g2⟩
  all_goals
    go_wp2_with fail
    clear x1 x2 x3 y1 y2 y3 z1 z2 z3 v1 v2 v3 v4 v5
    generalize (w7.alloc (.cells #[.int .i64 f1, .int .i64 ((checkF ws).2 : Int)] 36)) = w8 at *
    have hx9 : Below w8.heap.size w8 (w8.alloc (.cells #[.slice none 0 0] 33)) := (Below.refl _ _).alloc (Nat.le_refl _) _
    have hw9 := Blk.new w8 33 #[.slice none 0 0]
    have HJ9 := Lib.hid (HJ7.out.below hx9)
    have HB9 := Lib.hid hx9; have HW9 := Lib.hid hw9
    clear hx9 hw9
    generalize (w8.alloc (.cells #[.slice none 0 0] 33)) = w9 at *
  all_goals first
    | (have q4 : r4 = ([], 0, 4) := by rw [← HR4.out, HT4.out, if_pos (by omega)]
       subst q4
       refine (heaps_any [] [] A5 none c5 0 w9 HJ9.out (Ints.nil _ _) (by simp)).mono ?_
       rintro e w12 ⟨rfl, hb12⟩
       rw [eqB_self]
       have hB12 := HB9.out.trans (hb12.mono HB9.out.size)
       have hw12 := HW9.out.below hb12 HW9.out.lt
       rw [HS87.out] at hw12
       obtain ⟨WV, wn, wc, hwv⟩ : ∃ WV wn wc, Blk w12 (w7.heap.size + 1) 33 #[.slice WV wn wc] := ⟨_, _, _, hw12⟩
       have HB12 := Lib.hid hB12
       have HW12 := Lib.hid hwv
       clear hw12 hb12 HLR4 hB12 hwv)
    | (have q4 : newR ws 0 0 sz = r4 := by rw [← HR4.out, HT4.out, if_neg (by omega)]
       have Q4 := Lib.hid q4
       clear q4
       refine (rnew_any ws b o c 0 0 sz w9 (HROW.out.below (HX7.out.trans (HB9.out.mono HX7.out.size)) hlt) (Nat.lt_of_lt_of_le hlt (HX7.out.trans (HB9.out.mono HX7.out.size)).size) HW.out HOK.out (by omega) (by omega) (by omega) (by omega) (by omega) (by omega)).mono ?_
       rintro e w10 ⟨hb10, A10, c10, rfl, ho10⟩
       rw [Q4.out] at ho10 ⊢
       have HB10 := Lib.hid (HB9.out.trans (hb10.mono HB9.out.size))
       have hw10 := HW9.out.below hb10 HW9.out.lt
       have hws9 := HW9.out.lt
       rw [HS87.out] at hw10 hws9
       have HO10 := Lib.hid ho10
       have HW10 := Lib.hid hw10
       obtain ⟨u1, u2, u3⟩ := hw10.f1
       obtain ⟨z1, z2, z3⟩ := (HM7.out.below HB10.out HM7.out.lt).f1
       have hmn : ¬ M = w7.heap.size + 1 := by omega
       have hmn2 : ¬ w7.heap.size + 1 = M := by omega
       have ho11 := ho10.setCell ⟨w7.heap.size + 1, 0, none⟩ (by intro e; have := (ho10.lt _ e).1; dsimp only at this; omega) (.slice A10 r4.1.length c10)
       have HI11 := Lib.hid (own_pack ho11)
       have HB11 := Lib.hid (HB10.out.setCell (p := ⟨w7.heap.size + 1, 0, none⟩) (by rw [HS87.out]; exact Nat.le_refl _) (.slice A10 r4.1.length c10))
       have HW11 := Lib.hid (hw10.set_ 0 (.slice A10 r4.1.length c10))
       clear ho10 hw10 hb10 ho11
       go_wp2_with fail
       clear u1 u2 u3 z1 z2 z3
       generalize (w10.setCell ⟨w7.heap.size + 1, 0, none⟩ (.slice A10 r4.1.length c10)) = w11 at *
       refine (heaps_any r4.1 r4.1 A5 A10 c5 c10 w11 (HJ7.out.below HB11.out) HI11.out (by have := HLR4.out; omega)).mono ?_
       rintro e w12 ⟨rfl, hb12⟩
       rw [eqB_self]
       have hB12 := HB11.out.trans (hb12.mono HB11.out.size)
       have hw12 := HW11.out.below hb12 HW11.out.lt
       obtain ⟨WV, wn, wc, hwv⟩ : ∃ WV wn wc, Blk w12 (w7.heap.size + 1) 33 #[.slice WV wn wc] := ⟨_, _, _, hw12⟩
       have HB12 := Lib.hid hB12
       have HW12 := Lib.hid hwv
       clear HB10 HW10 HB11 HW11 hb12 HI11 HO10 hB12 hw12 hwv)
  all_goals
    have HX12 := Lib.hid (HX7.out.trans (HB12.out.mono HX7.out.size))
    obtain ⟨x1, x2, x3⟩ := (HH7.out.below HB12.out HH7.out.lt).f1
    go_wp2_with fail
    refine (rtable_any ws b o c x w12 (HROW.out.below HX12.out hlt) (Nat.lt_of_lt_of_le hlt HX12.out.size) hcap HOK.out HW.out h1 h2).mono ?_
    rintro e w13 ⟨rfl, hb13⟩
    have HB13 := Lib.hid (HB12.out.trans (hb13.mono HB12.out.size))
    have HW13 := Lib.hid (HW12.out.below hb13 HW12.out.lt)
    have HX13 := Lib.hid (HX12.out.trans (hb13.mono HX12.out.size))
    clear hb13 x1 x2 x3
    obtain ⟨x1, x2, x3⟩ := (HH7.out.below HB13.out HH7.out.lt).f1
    obtain ⟨y1, y2, y3⟩ := (HK7.out.below HB13.out HK7.out.lt).f1
    have hck : (checkF ws).1 = 0 := by have := okB_iff.2 HOK.out; unfold okB at this; simpa using this
    cases ht : tabB ws x
    · obtain ⟨e1, e2, e3⟩ := no_tab (tx := tx) hck ht
      have q1 := HR1.out.symm.trans e1; have q2 := HR2.out.symm.trans e2; have q3 := HR3.out.symm.trans e3
      subst q1; subst q2; subst q3
      simp only [List.length_nil] at *
      clear e1 e2 e3 hck HLR1
      go_wp2_with fail
      go_ret
      exact ⟨rfl, HX13.out⟩
    have HT := Lib.hid ht
    have q3 := HR3.out.symm.trans (all_good hck ht)
    subst q3
    dsimp only at *
    go_wp2_with fail
    refine (rall_any ws b o c x w13 (HROW.out.below HX13.out hlt) (Nat.lt_of_lt_of_le hlt HX13.out.size) hcap HOK.out HW.out HT.out h1 h2).mono ?_
    rintro e w14 ⟨hb14, A14, c14, rfl, ho14⟩
    have HB14 := Lib.hid (HB13.out.trans (hb14.mono HB13.out.size))
    have HW14 := Lib.hid (HW13.out.below hb14 HW13.out.lt)
    have HX14 := Lib.hid (HX13.out.trans (hb14.mono HX13.out.size))
    have HS14 := Lib.hid (ownS_pack ho14)
    have HSP : Hid (IntsS w14 A4 (allT ws x)) := HS7.out.below HB14.out
    have hal := allT_len ws x HOK.out HT.out
    clear hb14 ho14 x1 x2 x3 y1 y2 y3
    go_wp2_with fail
    refine (texts_any (allT ws x) (allT ws x) A4 A14 c4 c14 w14 HSP.out HS14.out (by omega)).mono ?_
    rintro e w15 ⟨rfl, m15, rfl⟩
    have hes : eqS (allT ws x) (allT ws x) = true := by unfold eqS; simp
    rw [hes]
    have HB15 := Lib.hid (HB14.out.trans (belowN _ w14 m15))
    have HX15 := Lib.hid (HX14.out.trans (belowN _ w14 m15))
    have HW15 := Lib.hid (HW14.out.drewN m15)
    clear hes HB14 HW14 HX14 HS14 HSP
    generalize w14.drewN m15 = w15 at *
    obtain ⟨x1, x2, x3⟩ := (HH7.out.below HB15.out HH7.out.lt).f1
    obtain ⟨y1, y2, y3⟩ := (HK7.out.below HB15.out HK7.out.lt).f1
    obtain ⟨u1, u2, u3⟩ := HW15.out.f1
    by_cases hz : tx.size ≤ 60
    case neg =>
      obtain ⟨e1, e2⟩ := big_text hck ht (show 60 < tx.size by omega)
      have q1 := HR1.out.symm.trans e1; have q2 := HR2.out.symm.trans e2
      subst q1; subst q2
      have hz2 : (60 : Int) < (tx.size : Int) := by omega
      simp only [List.length_nil] at *
      clear e1 e2 hck HLR1 hz ht
      go_wp2_with fail
      go_ret
      exact ⟨rfl, HX15.out⟩
    obtain ⟨e1, e2⟩ := text_good hck ht hz
    have q1 : intT ws x tx = r1 := e1.symm.trans HR1.out
    have q2 : findT ws x tx = r2 := e2.symm.trans HR2.out
    have Q1 := Lib.hid q1; have Q2 := Lib.hid q2
    have hz2 : (tx.size : Int) ≤ 60 := by omega
    have hlr : r1.1.length ≤ 10000 := by rcases HLR1.out with h | h <;> omega
    clear e1 e2 q1 q2 hck ht
    go_wp2_with fail
    refine (rintern_any ws b o c x tx w15 (HROW.out.below HX15.out hlt) (Nat.lt_of_lt_of_le hlt HX15.out.size) hcap HOK.out HW.out HT.out hz h1 h2).mono ?_
    rintro e w16 ⟨hb16, A16, c16, rfl, hi16, hc16⟩
    rw [Q1.out] at hi16 hc16 ⊢
    have HB16 := Lib.hid (HB15.out.trans (hb16.mono HB15.out.size))
    have hw16 := HW15.out.below hb16 HW15.out.lt
    have HX16 := Lib.hid (HX15.out.trans (hb16.mono HX15.out.size))
    have HI17 := Lib.hid (ints_set hi16 hw16 (.slice A16 r1.1.length c16))
    have HB17 := Lib.hid (HB16.out.setCell (p := ⟨w7.heap.size + 1, 0, none⟩) (by rw [HS87.out]; exact Nat.le_refl _) (.slice A16 r1.1.length c16))
    clear x1 x2 x3 y1 y2 y3 u1 u2 u3
    obtain ⟨x1, x2, x3⟩ := (HH7.out.below HB16.out HH7.out.lt).f1
    obtain ⟨y1, y2, y3⟩ := (HK7.out.below HB16.out HK7.out.lt).f1
    obtain ⟨u1, u2, u3⟩ := hw16.f1
    have hkn : ¬ K = w7.heap.size + 1 := by omega
    have hkn2 : ¬ w7.heap.size + 1 = K := by omega
    have HX17 := Lib.hid (HX7.out.trans (HB17.out.mono HX7.out.size))
    have HIK : Hid (Ints (w16.setCell ⟨w7.heap.size + 1, 0, none⟩ (.slice A16 r1.1.length c16)) A1 r1.1) := HI7.out.below HB17.out
    clear hb16 hw16 hi16 hc16
    go_wp2_with fail
    clear x1 x2 x3 y1 y2 y3 u1 u2 u3 hkn hkn2
    generalize (w16.setCell ⟨w7.heap.size + 1, 0, none⟩ (.slice A16 r1.1.length c16)) = w17 at *
    refine (heaps_any r1.1 r1.1 A1 A16 c1 c16 w17 HIK.out HI17.out (by omega)).mono ?_
    rintro e w18 ⟨rfl, hb18⟩
    rw [eqB_self]
    have HX18 := Lib.hid (HX17.out.trans (hb18.mono HX17.out.size))
    obtain ⟨x1, x2, x3⟩ := (HH7.out.below (HB17.out.trans (hb18.mono HB17.out.size)) HH7.out.lt).f1
    clear hb18
    go_wp2_with fail
    refine (rfind_any ws b o c x tx w18 (HROW.out.below HX18.out hlt) (Nat.lt_of_lt_of_le hlt HX18.out.size) hcap HOK.out HW.out HT.out hz h1 h2).mono ?_
    rintro e w19 ⟨rfl, hb19⟩
    rw [Q2.out]
    have HX19 := Lib.hid (HX18.out.trans (hb19.mono HX18.out.size))
    clear hb19 x1 x2 x3
    go_wp2_with fail
    go_ret
    exact ⟨rfl, HX19.out⟩
end Go.Proofs.Ytjpppdacamhhfaa
