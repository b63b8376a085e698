/- gessoref1.Texts, names.Table, names.All. Conditions: numbers of 64 bits. -/
import Derived.Test.YtjpppdacamhhfaaMemS
import Derived.Test.YtjpppdacamhhfaaNmSpec
import Derived.Test.YtjpppdacamhhfaaNew
namespace Go.Proofs.Ytjpppdacamhhfaa
open Go.RowKit
set_option linter.unusedVariables false

/-- The same texts? -/
def eqS (xs ys : List ByteArray) : Bool := decide (xs = ys)
theorem eqS_len {xs ys : List ByteArray} (h : xs.length ≠ ys.length) : eqS xs ys = false := by
  unfold eqS; exact decide_eq_false (fun e => h (by rw [e]))
theorem eqS_nth {xs ys : List ByteArray} {k : Nat} (h : ((stn xs k).toList == (stn ys k).toList) = false) : eqS xs ys = false := by
  unfold eqS; exact decide_eq_false (fun e => by rw [e] at h; simp at h)
theorem eqS_all {xs ys : List ByteArray} (h : xs.length = ys.length) (hk : ∀ j, j < xs.length → ((stn xs j).toList == (stn ys j).toList) = true) : eqS xs ys = true := by
  unfold eqS
  refine decide_eq_true (List.ext_getElem h fun j h1 h2 => ?_)
  have := toList_inj (hk j h1)
  rwa [stn_eq h1, stn_eq h2] at this

section
variable (xs ys : List ByteArray) (A B : Option Addr) (c d : Nat) (w : World) (hA : IntsS w A xs) (hB : IntsS w B ys) (hl : xs.length ≤ 1000000000)
include hA hB hl
theorem texts_any : Calls Try.prog 81 #[.slice A xs.length c, .slice B ys.length d] w fun e w' => e = .returned (.bool (eqS xs ys)) ∧ ∃ m, w' = w.drewN m := by
  have HA := Lib.hid hA; clear hA
  have HB := Lib.hid hB; clear hB
  by_cases hlen : xs.length = ys.length
  · have HL := Lib.hid hlen
    have hle : xs.length ≤ ys.length := by omega
    have hge : ys.length ≤ xs.length := by omega
    have hd : ((xs.length : Int) != (ys.length : Int)) = false := by simp; omega
    clear hlen
    go_enter Try.func81, Try.ntmps81
    go_wp2_with fail
    go_loopw [5] (fun i wr => ∃ (k m : Nat), k ≤ xs.length ∧ i = .int .i64 k ∧ wr = w.drewN m ∧ ∀ j, j < k → ((stn xs j).toList == (stn ys j).toList) = true) (fun i _ => xs.length - (intOf i).toNat)
    case atStart => exact ⟨0, 0, Nat.zero_le _, rfl, rfl, fun j hj => absurd hj (Nat.not_lt_zero _)⟩
    case round =>
      obtain ⟨k, m, hk, rfl, rfl, hall⟩ := hrel
      have HALL := Lib.hid hall; clear hall
      by_cases hlt : k < xs.length
      · obtain ⟨b, o, rfl, _, hr⟩ := HA.out (by omega)
        obtain ⟨b', o', rfl, _, hr'⟩ := HB.out (by omega)
        have h1 := hr k hlt
        have h2 := hr' k (by omega)
        have f1 : (0 : Int) ≤ (k : Int) := by omega
        have f2 : (k : Int) < (xs.length : Int) := by omega
        have f3 : (k : Int) < (ys.length : Int) := by omega
        clear hr hr'
        cases he : ((stn xs k).toList == (stn ys k).toList)
        · have HE := Lib.hid (eqS_nth he)
          have he2 : ((stn xs k).toList != (stn ys k).toList) = true := by unfold bne; rw [he]; rfl
          generalize stn xs k = sx at *
          generalize stn ys k = sy at *
          go_wp2_with fail
          go_quiet (fail)
          go_wp2
          go_ret
          exact ⟨ret_bool HE.out.symm, _, World.drewN_drewN ..⟩
        · have HE := Lib.hid he
          have he2 : ((stn xs k).toList != (stn ys k).toList) = false := by unfold bne; rw [he]; rfl
          have HT : Hid (∀ j, j < k + 1 → ((stn xs j).toList == (stn ys j).toList) = true) := fun j hj => by
            rcases Nat.lt_or_ge j k with h | h
            · exact HALL.out j h
            · obtain rfl : j = k := by omega
              exact HE.out
          generalize stn xs k = sx at *
          generalize stn ys k = sy at *
          go_wp2_with fail
          go_quiet (fail)
          go_wp2
          go_roundw
          case rel => exact ⟨k + 1, _, by omega, by go_num, rfl, HT.out⟩
          case measure => simp [intOf]; omega
      · have HE := Lib.hid (eqS_all HL.out (fun j hj => HALL.out j (by omega)))
        go_wp2
        go_ret
        exact ⟨ret_bool HE.out.symm, _, rfl⟩
  · have HN := Lib.hid (eqS_len hlen)
    have hd : ((xs.length : Int) != (ys.length : Int)) = true := by simp; omega
    clear hlen
    go_enter Try.func81, Try.ntmps81
    go_wp2
    go_ret
    exact ⟨ret_bool HN.out.symm, 0, rfl⟩
end

theorem heapOut_sub {w w1 w2 : World} {r : List Int × Int × Int} {A : Option Addr} {c : Nat} {B : Nat} (hl : Below B w w2) (hB : B = w.heap.size) (hown : Own w2 w.heap.size (.slice A r.1.length c) r.1) :
    HeapOut r w (.returned (.tuple #[.agg #[.slice A r.1.length c], .int .i64 r.2.1, .int .i64 r.2.2])) w2 := ⟨hB ▸ hl, A, c, rfl, hown⟩

set_option maxRecDepth 100000 in
set_option maxHeartbeats 4000000 in
theorem table_any (ws : List Int) (A : Option Addr) (c : Nat) (sz : Int) (w : World) (hA : Ints w A ws) (hcap : ws.length ≤ c) (hw : I64 ws) (hl : ws.length ≤ 9223372036854775807) (s1 : -9223372036854775808 ≤ sz) (s2 : sz ≤ 9223372036854775807) :
    Calls Try.prog 78 #[.agg #[.slice A ws.length c], .int .i64 sz] w (HeapOut (tabF ws sz) w) := by
  have HA := Lib.hid ((hA.alloc (.cells #[.slice A ws.length c] 33)).alloc (.cells #[.slice none 0 0] 33)); clear hA
  have HW := Lib.hid hw; clear hw
  have hb0 : Blk ((w.alloc (.cells #[.slice A ws.length c] 33)).alloc (.cells #[.slice none 0 0] 33)) w.heap.size 33 #[.slice A ws.length c] := (Blk.new _ _ _).alloc _
  have hr0 : Blk ((w.alloc (.cells #[.slice A ws.length c] 33)).alloc (.cells #[.slice none 0 0] 33)) (w.heap.size + 1) 33 #[.slice none 0 0] := by
    have := Blk.new (w.alloc (.cells #[.slice A ws.length c] 33)) 33 #[.slice none 0 0]
    simpa using this
  have HB0 := Lib.hid hb0; have HR0 := Lib.hid hr0; clear hb0 hr0
  have HL0 : Hid (Below w.heap.size w ((w.alloc (.cells #[.slice A ws.length c] 33)).alloc (.cells #[.slice none 0 0] 33))) := ((Below.refl _ _).alloc (Nat.le_refl _) _).alloc (by simp) _
  have hz0 : w.heap.size + 2 ≤ ((w.alloc (.cells #[.slice A ws.length c] 33)).alloc (.cells #[.slice none 0 0] 33)).heap.size := by simp
  go_enter Try.func78, Try.ntmps78
  go_wp2_with fail
  generalize ((w.alloc (.cells #[.slice A ws.length c] 33)).alloc (.cells #[.slice none 0 0] 33)) = w0 at *
  refine (check_any ws A c w0 HA.out hcap HW.out (by omega)).mono ?_
  rintro e w1 ⟨rfl, hb1⟩
  have hb1' : Below w0.heap.size w0 (w1.alloc (.cells #[.int .i64 (checkF ws).1, .int .i64 ((checkF ws).2 : Int)] 36)) := hb1.alloc hb1.size _
  have HL1 := Lib.hid (HL0.out.trans (hb1'.mono (by omega)))
  have HB1 := Lib.hid (HB0.out.below hb1' HB0.out.lt)
  have HR1 := Lib.hid (HR0.out.below hb1' HR0.out.lt)
  have HA1 := Lib.hid (HA.out.below hb1')
  have HF1 := Lib.hid (Blk.new w1 36 #[.int .i64 (checkF ws).1, .int .i64 ((checkF ws).2 : Int)])
  have HZ := Lib.hid hb1.size
  clear hb1 hb1' hz0
  unfold fltV
  obtain ⟨x1, x2, x3⟩ := HB1.out.f1
  obtain ⟨y1, y2, y3⟩ := HR1.out.f1
  obtain ⟨z1, z2, z3, z4, z5⟩ := HF1.out.f2
  cases hok : okB ws
  · have HE : Hid (tabF ws sz = ([], 0, 7)) := by show _ = _; unfold tabF; rw [hok]; rfl
    have hck : ((checkF ws).1 != 0) = true := by unfold okB at hok; simpa using hok
    clear hok
    generalize (checkF ws).1 = f1 at *
    go_wp2_with fail
    rw [HE.out]
    exact bodyPost_ret (v := .tuple #[.agg #[.slice none 0 0], .int .i64 0, .int .i64 7]) (by simp [results, Try.results78, go_sem, y1]) rfl (heapOut_err _ _ (HL1.out.setCell (by simp) _))
  · have HN : Hid (tabF ws sz = if sz < 1 ∨ 60 < sz then ([], 0, 4) else newR ws 0 0 sz) := by show _ = _; unfold tabF; rw [hok]; rfl
    have HOK : Hid (newOut ws 0 0 sz = newR ws 0 0 sz) := by show _ = _; unfold newOut; rw [hok]; rfl
    have hck : ((checkF ws).1 != 0) = false := by unfold okB at hok; simpa using hok
    clear hok
    generalize (checkF ws).1 = f1 at *
    by_cases hr : sz < 1 ∨ 60 < sz
    · have HE : Hid (tabF ws sz = ([], 0, 4)) := by show _ = _; rw [HN.out, if_pos hr]
      have hr : sz < 1 ∨ (1 ≤ sz ∧ 60 < sz) := by omega
      rcases hr with h1 | ⟨h1, h2⟩
      all_goals
        go_wp2_with fail
        rw [HE.out]
        exact bodyPost_ret (v := .tuple #[.agg #[.slice none 0 0], .int .i64 0, .int .i64 4]) (by simp [results, Try.results78, go_sem, y1]) rfl (heapOut_err _ _ (HL1.out.setCell (by simp) _))
    · have HE : Hid (tabF ws sz = newOut ws 0 0 sz) := by show _ = _; rw [HN.out, if_neg hr, HOK.out]
      obtain ⟨h1, h2⟩ : 1 ≤ sz ∧ sz ≤ 60 := by omega
      clear hr
      go_wp2_with fail
      generalize (w1.alloc (.cells #[.int .i64 f1, .int .i64 ((checkF ws).2 : Int)] 36)) = w2 at *
      refine (new_any ws A c 0 0 sz w2 HA1.out hcap HW.out hl (by omega) (by omega) (by omega) (by omega) (by omega) (by omega)).mono ?_
      rintro e w3 ⟨hb3, A3, c3, rfl, hown3⟩
      have HL3 := Lib.hid (HL1.out.trans (hb3.mono HL1.out.size))
      have HR3 := Lib.hid (HR1.out.below hb3 HR1.out.lt)
      obtain ⟨u1, u2, u3⟩ := HR3.out.f1
      have HO3 := Lib.hid hown3
      clear hown3 hb3
      go_wp2_with fail
      rw [HE.out]
      generalize newOut ws 0 0 sz = r at *
      refine bodyPost_ret (v := .tuple #[.agg #[.slice A3 r.1.length c3], .int .i64 r.2.1, .int .i64 r.2.2]) (by simp [results, Try.results78, go_sem, u1]) rfl ⟨HL3.out.setCell (by simp) _, A3, c3, rfl, ?_⟩
      refine (HO3.out.mono HL1.out.size).setCell _ ?_ _
      intro h
      have := (HO3.out.lt _ h).1
      have := HR1.out.lt
      simp at *; omega
end Go.Proofs.Ytjpppdacamhhfaa
