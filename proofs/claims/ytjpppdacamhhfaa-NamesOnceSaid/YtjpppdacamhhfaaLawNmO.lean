/- What NamesOnce's code computes. Conditions: the words are numbers of 64 bits. -/
import Derived.Test.YtjpppdacamhhfaaLawNmK
namespace Go.Proofs.Ytjpppdacamhhfaa
open Go.RowKit
set_option linter.unusedVariables false

def txA : ByteArray := ⟨#[97]⟩
def tO : List Int := [0, 2, 0, 1, 8, 0, 0]
def tA : List Int := [0, 3, 0, 1, 8, 0, 14, 0, 2, 5, 97]
theorem once_t1 : tabF [0, 1] 2 = (tO, 4, 0) := by decide +kernel
theorem once_t2 : intF tO 4 txA = (tA, 14, 0) := by decide +kernel
theorem once_t3 : allF tA 4 = ([txA], 0) := by
  have h : seeE tA 4 = 0 := by decide +kernel
  unfold allF
  rw [h]
  have h2 : allT tA 4 = [txA] := by
    have h3 : (slotsL tA (pcl 4)).filter (fun s => s != 0) = [14] := by decide +kernel
    have h4 : slotsL tA (pcl 14) = [97] := by decide +kernel
    unfold allT
    rw [h3]
    unfold txtS
    simp only [List.map_cons, List.map_nil, h4]
    rfl
  rw [h2]; rfl
theorem tO_i64 : I64 tO := fun j => by
  rcases Nat.lt_or_ge j 7 with h | h
  · have : ∀ k : Fin 7, -9223372036854775808 ≤ nth tO k.val ∧ nth tO k.val ≤ 9223372036854775807 := by decide
    exact this ⟨j, h⟩
  · rw [nth_out h]; omega
theorem tA_i64 : I64 tA := fun j => by
  rcases Nat.lt_or_ge j 11 with h | h
  · have : ∀ k : Fin 11, -9223372036854775808 ≤ nth tA k.val ∧ nth tA k.val ≤ 9223372036854775807 := by decide
    exact this ⟨j, h⟩
  · rw [nth_out h]; omega
theorem tO_len : tO.length = 7 := rfl
theorem tA_len : tA.length = 11 := rfl
theorem txA_list : txA.toList = [97] := by rw [ByteArray.toList_eq]; rfl
theorem int_ok {ws : List Int} {x : Int} {tx : ByteArray} (h : (intF ws x tx).2.2 = 0) : OkH ws := by
  unfold intF at h
  split at h
  · rename_i ha
    unfold askE at ha
    split at ha
    · cases ha
    · rename_i hc
      refine okB_iff.1 ?_
      unfold okB
      have hc : (checkF ws).1 = 0 := Classical.not_not.1 hc
      rw [hc]; rfl
  · rename_i ha
    exact absurd h ha
theorem int_err {ws : List Int} {x : Int} {tx : ByteArray} (h : (intF ws x tx).2.2 ≠ 0) : (intF ws x tx).2.1 = 0 ∧ (intF ws x tx).1 = [] := by
  unfold intF at h ⊢
  split at h
  · rename_i ha
    rw [if_pos ha]
    unfold intT at h ⊢
    split at h
    · rename_i h1; rw [if_pos h1]; exact ⟨rfl, rfl⟩
    · rename_i h1
      rw [if_neg h1]
      split at h
      · exact absurd rfl h
      · rename_i h2
        rw [if_neg h2]
        split at h
        · exact absurd rfl h
        · rename_i h3; rw [if_neg h3]; exact ⟨rfl, rfl⟩
  · rename_i ha
    rw [if_neg ha]; exact ⟨rfl, rfl⟩
theorem int_i64 {ws ms : List Int} {x y : Int} {tx : ByteArray} (hw : I64 ws) (h : intF ws x tx = (ms, y, 0)) : I64 ms ∧ OkH ms ∧ OkH ws ∧ tx.size ≤ 60 := by
  have hok : OkH ws := int_ok (x := x) (tx := tx) (by rw [h])
  obtain ⟨k, h1⟩ := known_of hok h
  refine ⟨?_, k.ok, hok, k.size⟩
  rcases h1 with rfl | ⟨-, q, -, -, -, hm⟩
  · exact hw
  · exact hm.i64 hw
theorem bool_iff {a b : Int} {s t : ByteArray} (h : a = b ↔ s = t) : ((a == b) == (s.toList == t.toList)) = true := by
  by_cases e : s = t
  · rw [h.2 e, e]; simp
  · have h1 : (a == b) = false := by simpa using fun h2 => e (h.1 h2)
    have h2 : (s.toList == t.toList) = false := by
      cases h3 : (s.toList == t.toList)
      · rfl
      · exact absurd (toList_inj h3) e
    rw [h1, h2]; rfl

set_option maxRecDepth 100000 in
set_option maxHeartbeats 4000000 in
theorem namesOnce_walk (ws : List Int) (A : Option Addr) (c : Nat) (x : Int) (one two : ByteArray) (w : World)
    (hA : Ints w A ws) (hcap : ws.length ≤ c) (hw : I64 ws) (hl : ws.length ≤ 9223372036854775807) (h1 : -9223372036854775808 ≤ x) (h2 : x ≤ 9223372036854775807) (hs1 : one.size ≤ 9223372036854775807) (hs2 : two.size ≤ 9223372036854775807) :
    Calls Try.prog 23 #[.agg #[.slice A ws.length c], .int .i64 x, .string one, .string two] w fun e w' => e = .returned (.bool true) ∧ Below w.heap.size w w' := by
  have hx0 : Below w.heap.size w ((w.alloc (.cells #[.slice A ws.length c] 33)).alloc (.cells #[.int .i64 0, .int .i64 1] 3)) := ((Below.refl _ _).alloc (Nat.le_refl _) _).alloc (by simp) _
  have HX0 := Lib.hid hx0
  have HA := Lib.hid hA
  have HW := Lib.hid hw
  have HH := Lib.hid ((Blk.new w 33 #[.slice A ws.length c]).alloc (.cells #[.int .i64 0, .int .i64 1] 3))
  have HI := Lib.hid (ints_new (w.alloc (.cells #[.slice A ws.length c] 33)) [0, 1])
  clear hx0 hA hw
  go_enter Try.func23, Try.ntmps23
  go_wp2_with fail
  have hi : Ints ((w.alloc (.cells #[.slice A ws.length c] 33)).alloc (.cells #[.int .i64 0, .int .i64 1] 3)) (some ⟨w.heap.size + 1, 0, none⟩) [0, 1] := by
    have := HI.out
    rw [World.size_alloc] at this
    exact this
  have HI := Lib.hid hi
  clear hi
  generalize ((w.alloc (.cells #[.slice A ws.length c] 33)).alloc (.cells #[.int .i64 0, .int .i64 1] 3)) = w0 at *
  refine (table_any [0, 1] (some ⟨w.heap.size + 1, 0, none⟩) 2 2 w0 HI.out (by simp) (fun j => by rcases j with _ | _ | j <;> simp [nth]) (by simp) (by omega) (by omega)).mono ?_
  rintro e w1 ⟨hb1, A1, c1, rfl, ho1⟩
  rw [once_t1] at ho1 ⊢
  dsimp only at ho1 ⊢
  have hx1 := hb1.alloc hb1.size (.cells #[.slice A1 tO.length c1] 33)
  have HX1 := Lib.hid (HX0.out.trans (hx1.mono HX0.out.size))
  have HH1 := Lib.hid (HH.out.below hx1 HH.out.lt)
  have HK1 := Lib.hid (Blk.new w1 33 #[.slice A1 tO.length c1])
  obtain ⟨hi1, hc1⟩ := own_ints9b ho1
  have HI1 := Lib.hid (hi1.alloc (.cells #[.slice A1 tO.length c1] 33))
  have hkw : w.heap.size < w1.heap.size := Nat.lt_of_lt_of_le HH.out.lt hb1.size
  clear hb1 hx1 ho1 hi1 HX0 HH HI
  go_wp2_with fail
  generalize (w1.alloc (.cells #[.slice A1 tO.length c1] 33)) = w2 at *
  generalize w1.heap.size = K at *
  refine (intern_any tO 4 txA A1 c1 w2 HI1.out hc1 tO_i64 (by rw [tO_len]; omega) (by omega) (by omega) (by decide +kernel)).mono ?_
  rintro e w3 ⟨hb3, A3, c3, rfl, ho3⟩
  rw [once_t2] at ho3 ⊢
  dsimp only at ho3 ⊢
  have HX3 := Lib.hid (HX1.out.trans (hb3.mono HX1.out.size))
  have HH3 := Lib.hid (HH1.out.below hb3 HH1.out.lt)
  have hk3 := HK1.out.below hb3 HK1.out.lt
  have HK4 := Lib.hid (hk3.set_ 0 (.slice A3 tA.length c3))
  have ho4 := ho3.setCell ⟨K, 0, none⟩ (by intro e; have := (ho3.lt _ e).1; have := HK1.out.lt; dsimp only at *; omega) (.slice A3 tA.length c3)
  obtain ⟨hi4, hc4⟩ := own_ints9b ho4
  have HI4 := Lib.hid hi4
  have HX4 := Lib.hid (HX3.out.setCell (p := ⟨K, 0, none⟩) (Nat.le_of_lt hkw) (.slice A3 tA.length c3))
  have HH4 := Lib.hid (HH3.out.far (p := ⟨K, 0, none⟩) (by dsimp only; omega) (.slice A3 tA.length c3))
  obtain ⟨y1, y2, y3⟩ := hk3.f1
  clear hb3 ho3 ho4 hi4 hk3 HX1 HH1 HK1 HI1 HX3 HH3
  go_wp2_with fail
  clear y1 y2 y3
  generalize (w3.setCell ⟨K, 0, none⟩ (.slice A3 tA.length c3)) = w4 at *
  refine (all_any tA 4 A3 c3 w4 HI4.out hc4 tA_i64 (by rw [tA_len]; omega) (by omega) (by omega)).mono ?_
  rintro e w5 ⟨hb5, A5, c5, rfl, ho5⟩
  rw [once_t3] at ho5 ⊢
  simp only [List.length_cons, List.length_nil, Nat.zero_add] at ho5 ⊢
  obtain ⟨b5, o5, rfl, -, hr5⟩ := ownS_pack ho5 (by simp)
  have e5 := hr5 0 (by simp)
  rw [show stn [txA] 0 = txA from rfl, Nat.add_zero] at e5
  have HX5 := Lib.hid (HX4.out.trans (hb5.mono HX4.out.size))
  have HH5 := Lib.hid (HH4.out.below hb5 HH4.out.lt); have HK5 := Lib.hid (HK4.out.below hb5 HK4.out.lt)
  obtain ⟨x1, x2, x3⟩ := HH5.out.f1
  obtain ⟨y1, y2, y3⟩ := HK5.out.f1
  have hta := txA_list
  clear hb5 ho5 hr5 HX4 HH4 HK4 HI4
  generalize txA = ta at *
  by_cases hbig : 5000 < ws.length
  · have hb : (5000 : Int) < (ws.length : Int) := by omega
    go_wp2_with fail
    go_ret
    exact ⟨rfl, HX5.out⟩
  have hb : (ws.length : Int) ≤ 5000 := by omega
  clear hbig
  go_wp2_with fail
  clear x1 x2 x3 y1 y2 y3 e5 hta
  refine (intern_any ws x one A c w5 (HA.out.below HX5.out) hcap HW.out hl h1 h2 hs1).mono ?_
  rintro e w6 ⟨hb6, A6, c6, rfl, ho6⟩
  generalize hr1 : intF ws x one = r1 at *
  have HR1 := Lib.hid hr1
  have HX6 := Lib.hid (HX5.out.trans (hb6.mono HX5.out.size))
  have hk6 := HK5.out.below hb6 HK5.out.lt
  obtain ⟨y1, y2, y3⟩ := hk6.f1
  clear hr1 HH5
  by_cases hE : r1.2.2 = 0
  case neg =>
    have q1 : r1.2.1 = 0 := by rw [← HR1.out]; exact (int_err (by rw [HR1.out]; exact hE)).1
    have hne : (r1.2.2 != 0) = true := by simpa using hE
    clear hb6 ho6
    generalize r1.2.2 = E at *
    go_wp2_with fail
    go_ret
    exact ⟨rfl, HX6.out.setCell (by dsimp only; omega) _⟩
  have hne : (r1.2.2 != 0) = false := by simpa using hE
  obtain ⟨ks, ox, e1⟩ := r1
  dsimp only at hE hne ho6 ⊢
  subst hE
  obtain ⟨hki, hko, hwo, hz1⟩ := int_i64 HW.out HR1.out
  have hkl : ks.length ≤ 2000 := hko.most
  have hk7 := hk6.set_ 0 (.slice A6 ks.length c6)
  have ho7 := ho6.setCell ⟨K, 0, none⟩ (by intro e; have := (ho6.lt _ e).1; have := HK5.out.lt; dsimp only at *; omega) (.slice A6 ks.length c6)
  obtain ⟨hi7, hc7⟩ := own_ints9b ho7
  have HI7 := Lib.hid hi7; have HK7 : Hid (Blk (w6.setCell ⟨K, 0, none⟩ (.slice A6 ks.length c6)) K 33 #[.slice A6 ks.length c6]) := hk7
  have HX7 := Lib.hid (HX6.out.setCell (p := ⟨K, 0, none⟩) (Nat.le_of_lt hkw) (.slice A6 ks.length c6))
  have HKI := Lib.hid hki; have HKO := Lib.hid hko; have HWO := Lib.hid hwo
  clear hb6 ho6 hk6 hk7 ho7 hi7 hki hko hwo HX6 HK5 HX5
  go_wp2_with fail
  clear y1 y2 y3
  generalize (w6.setCell ⟨K, 0, none⟩ (.slice A6 ks.length c6)) = w7 at *
  refine (intern_any ks x two A6 c6 w7 HI7.out hc7 HKI.out (by omega) h1 h2 hs2).mono ?_
  rintro e w8 ⟨hb8, A8, c8, rfl, ho8⟩
  generalize hr2 : intF ks x two = r2 at *
  have HR2 := Lib.hid hr2
  have hx9 := hb8.alloc hb8.size (.cells #[.slice A8 r2.1.length c8] 33)
  have HX9 := Lib.hid (HX7.out.trans (hx9.mono HX7.out.size))
  have HK9 := Lib.hid (HK7.out.below hx9 HK7.out.lt)
  have HM9 := Lib.hid (Blk.new w8 33 #[.slice A8 r2.1.length c8])
  obtain ⟨hi8, hc8⟩ := own_ints9b ho8
  have HI9 := Lib.hid (hi8.alloc (.cells #[.slice A8 r2.1.length c8] 33))
  have HJ9 := Lib.hid (HI7.out.below hx9)
  have HX8 := Lib.hid (HX7.out.trans (hb8.mono HX7.out.size)); have HJ8 := Lib.hid (HI7.out.below hb8)
  have hK8 := Nat.lt_of_lt_of_le HK7.out.lt hb8.size
  have hw8 := Nat.le_trans HX7.out.size hb8.size
  obtain ⟨y1, y2, y3⟩ := HK9.out.f1
  obtain ⟨z1, z2, z3⟩ := HM9.out.f1
  clear hr2 hb8 hx9 ho8 hi8 HX7 HK7 HI7
  by_cases hE2 : r2.2.2 = 0
  case neg =>
    have hne2 : (r2.2.2 != 0) = true := by simpa using hE2
    have HF : Hid (findF ks x one = (ox, 0)) := (once_here HWO.out HR1.out).1
    have hmk : ¬ w8.heap.size = K := by omega
    have hkm : ¬ K = w8.heap.size := by omega
    clear hE2
    go_wp2_with fail
    have hx10 := Lib.hid (HX8.out.alloc HX8.out.size (.cells #[.slice A6 ks.length c6] 33))
    have hi10 := Lib.hid (HJ8.out.alloc (.cells #[.slice A6 ks.length c6] 33))
    clear y1 y2 y3 z1 z2 z3
    generalize (w8.alloc (.cells #[.slice A6 ks.length c6] 33)) = w10 at *
    refine (find_any ks x one A6 c6 w10 hi10.out hc7 HKI.out (by omega) h1 h2 hs1).mono ?_
    rintro e w11 ⟨rfl, hb11⟩
    rw [HF.out]
    have hx11 := Lib.hid (hx10.out.trans (hb11.mono hx10.out.size))
    clear hb11
    generalize r2.2.2 = E2 at *
    go_wp2_with fail
    go_ret
    exact ⟨rfl, hx11.out⟩
  have hne2 : (r2.2.2 != 0) = false := by simpa using hE2
  obtain ⟨ms, oy, e2⟩ := r2
  dsimp only at hE2 hne2 hc8 HI9 HX9 HK9 HM9 HJ9 y1 y2 y3 z1 z2 z3 ⊢
  subst hE2
  obtain ⟨hmi, hmo, -, -⟩ := int_i64 HKI.out HR2.out
  obtain ⟨f1, f2⟩ := once_kept HWO.out HR1.out HR2.out
  have hml : ms.length ≤ 2000 := hmo.most
  have HF := Lib.hid f1; have HG := Lib.hid (bool_iff f2); have HMI := Lib.hid hmi
  clear f1 f2 hmi hmo
  go_wp2_with fail
  clear y1 y2 y3 z1 z2 z3
  refine (find_any ms x one A8 c8 _ HI9.out hc8 HMI.out (by omega) h1 h2 hs1).mono ?_
  rintro e w11 ⟨rfl, hb11⟩
  rw [HF.out]
  have hx11 := Lib.hid (HX9.out.trans (hb11.mono HX9.out.size))
  clear hb11
  have hg := HG.out
  go_wp2_with fail
  go_ret
  exact ⟨rfl, hx11.out⟩
end Go.Proofs.Ytjpppdacamhhfaa
