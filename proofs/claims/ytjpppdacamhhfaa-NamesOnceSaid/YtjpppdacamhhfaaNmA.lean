/- names: what a table is; names.see. Conditions: the words are numbers of 64 bits. -/
import Derived.Test.YtjpppdacamhhfaaHeap1
import Derived.Test.YtjpppdacamhhfaaRoots
import Derived.Test.YtjpppdacamhhfaaRSpec
import Derived.Test.YtjpppdacamhhfaaMemU
import Derived.Laws.BytesArg
namespace Go.Proofs.Ytjpppdacamhhfaa
open Go.RowKit
set_option linter.unusedVariables false

/-- May that stand in a slot of a table? -/
def tslotB (ws : List Int) (s : Int) : Bool := s == 0 || (isTh ws s && decide (formOf ws (pcl s) = 1))
/-- Is that a table? -/
def tabB (ws : List Int) (o : Int) : Bool := isTh ws o && (decide (formOf ws (pcl o) = 0) && (decide (0 < slotsN ws (pcl o)) && (slotsL ws (pcl o)).all (tslotB ws)))
def TSeeEnd (ws : List Int) (o : Int) (w : World) (e : Ending) (w' : World) : Prop :=
  Below w.heap.size w w' ∧ (((checkF ws).1 ≠ 0 ∧ e = .returned (.tuple #[.pointer none, .int .i64 7])) ∨ ((checkF ws).1 = 0 ∧ tabB ws o = false ∧ e = .returned (.tuple #[.pointer none, .int .i64 3])) ∨
    ((checkF ws).1 = 0 ∧ tabB ws o = true ∧ ∃ T g, e = .returned (.tuple #[.pointer (some ⟨T, 0, none⟩), .int .i64 0]) ∧ Blk w' T 164 #[.pointer (some ⟨g, 0, none⟩), .int .i64 (pcl o : Int)] ∧ ViewAt w' g ws))

theorem tab_no {ws : List Int} {o : Int} {j : Nat} (hj : j < (slotsL ws (pcl o)).length) (h : tslotB ws (nth (slotsL ws (pcl o)) j) = false) : tabB ws o = false := by
  have ha : (slotsL ws (pcl o)).all (tslotB ws) = false := by
    rw [List.all_eq_false]
    rw [nth_eq hj] at h
    exact ⟨_, List.getElem_mem hj, by rw [h]; decide⟩
  unfold tabB
  rw [ha]; simp
theorem tab_yes {ws : List Int} {o : Int} (h1 : isTh ws o = true) (h2 : formOf ws (pcl o) = 0) (h3 : 0 < slotsN ws (pcl o)) (h : ∀ j, j < (slotsL ws (pcl o)).length → tslotB ws (nth (slotsL ws (pcl o)) j) = true) : tabB ws o = true := by
  have ha : (slotsL ws (pcl o)).all (tslotB ws) = true := by
    rw [List.all_eq_true]
    intro x hx
    obtain ⟨j, hj, rfl⟩ := List.getElem_of_mem hx
    have := h j hj
    rwa [nth_eq hj] at this
  unfold tabB
  rw [h1, ha, decide_eq_true h2, decide_eq_true h3]; rfl

set_option maxRecDepth 100000 in
set_option maxHeartbeats 4000000 in
theorem tsee_any (ws : List Int) (o : Int) (A : Option Addr) (c : Nat) (w : World) (hA : Ints w A ws) (hcap : ws.length ≤ c) (hw : I64 ws) (hl : ws.length ≤ 9223372036854775807) (h1 : -9223372036854775808 ≤ o) (h2 : o ≤ 9223372036854775807) :
    Calls Try.prog 135 #[.agg #[.slice A ws.length c], .int .i64 o] w (TSeeEnd ws o w) := by
  have hx0 : Below w.heap.size w (w.alloc (.cells #[.slice A ws.length c] 33)) := (Below.refl _ _).alloc (Nat.le_refl _) _
  have HX0 := Lib.hid hx0
  have HA := Lib.hid (hA.below hx0); have HW := Lib.hid hw
  have HH0 := Lib.hid (Blk.new w 33 #[.slice A ws.length c])
  clear hx0 hA hw
  go_enter Try.func135, Try.ntmps135
  go_wp2_with fail
  generalize (w.alloc (.cells #[.slice A ws.length c] 33)) = w1 at *
  refine (see_any ws A c w1 HA.out hcap HW.out hl).mono ?_
  rintro e w2 ⟨hb2, h⟩
  have HX2 := Lib.hid (HX0.out.trans (hb2.mono HX0.out.size))
  have hsz := HX2.out.size
  clear hb2
  rcases h with ⟨h0, rfl⟩ | ⟨h0, g, rfl, hv⟩
  · have hn : ((checkF ws).1 != 0) = true := by simpa using h0
    have HN := Lib.hid h0
    clear h0
    unfold seeV fltV
    go_wp2_with fail
    refine bodyPost_ret (v := .tuple #[.pointer none, .int .i64 7]) (by simp [results, Try.results135, go_sem]) rfl ⟨HX2.out.alloc hsz _, .inl ⟨HN.out, rfl⟩⟩
  have H0 := Lib.hid h0
  have hok : OkH ws := okB_iff.1 (by unfold okB; simp [h0])
  have hq1 : ws.length ≤ 2000 := hok.most
  have HOK := Lib.hid hok
  have HX3 := Lib.hid (HX2.out.alloc hsz (.cells #[.int .i64 0, .int .i64 0] 36))
  have HV := Lib.hid (hv.below ((Below.refl w2.heap.size w2).alloc (Nat.le_refl _) (.cells #[.int .i64 0, .int .i64 0] 36)))
  clear h0 hok hv
  have HIS := Lib.hid (isv_any HV.out o h1 h2)
  cases hth : isTh ws o
  · have htab : tabB ws o = false := by unfold tabB; rw [hth]; rfl
    have HTAB := Lib.hid htab
    rw [hth] at HIS
    clear htab hth
    unfold fltV
    go_wp2_with (go_at_call 95; refine HIS.out.mono ?_; rintro e w4 ⟨rfl, rfl⟩)
    refine bodyPost_ret (v := .tuple #[.pointer none, .int .i64 3]) (by simp [results, Try.results135, go_sem]) rfl ⟨HX3.out, .inr (.inl ⟨H0.out, HTAB.out, rfl⟩)⟩
  obtain ⟨hm, ho, ho4, ho5⟩ := isTh_mem hth
  have hpd : (o / 2).toNat = pcl o := rfl
  rw [hpd] at hm ho
  obtain ⟨p2, pl, pb⟩ := places_mem hm
  obtain ⟨m1, m2, m3, m4, m5⟩ := not_bad pb
  have hn60 : slotsN ws (pcl o) ≤ 60 := by unfold slotsN; omega
  have hq : o.tdiv 2 = ((pcl o : Nat) : Int) := by rw [Int.tdiv_eq_ediv_of_nonneg (by omega)]; omega
  have hq2 : o / 2 = ((pcl o : Nat) : Int) := by omega
  have HTH := Lib.hid hth; have HPB := Lib.hid pb
  rw [hth] at HIS
  have HFM := Lib.hid (formv_any HV.out HW.out (by omega) (pcl o) (by omega))
  have HSL := Lib.hid (slotsv_any HV.out HW.out (by omega) (pcl o) pb)
  have hwp : IntKind.i64.wrap ((pcl o : Nat) : Int) = ((pcl o : Nat) : Int) := IntWalk.i64_in _ (by omega)
  have HOE := Lib.hid ho
  clear hth hm hpd pb ho
  by_cases hf : formOf ws (pcl o) = 0
  case neg =>
    have htab : tabB ws o = false := by unfold tabB; rw [HTH.out, decide_eq_false hf]; rfl
    have HTAB := Lib.hid htab
    have hfb : (formOf ws (pcl o) != 0) = true := by simpa using hf
    clear htab hf
    unfold fltV
    go_wp2_with (first
      | (go_at_call 95; with_reducible refine HIS.out.mono ?_; rintro e w4 ⟨rfl, rfl⟩)
      | (go_at_call 97; with_reducible refine HFM.out.mono ?_; rintro e w4 ⟨rfl, rfl⟩))
    refine bodyPost_ret (v := .tuple #[.pointer none, .int .i64 3]) (by simp [results, Try.results135, go_sem]) rfl ⟨HX3.out, .inr (.inl ⟨H0.out, HTAB.out, rfl⟩)⟩
  have hfb : (formOf ws (pcl o) != 0) = false := by simpa using hf
  have HF := Lib.hid hf
  clear hf
  by_cases hn : slotsN ws (pcl o) = 0
  · have htab : tabB ws o = false := by unfold tabB; rw [HTH.out, decide_eq_true HF.out, decide_eq_false (show ¬ 0 < slotsN ws (pcl o) by omega)]; rfl
    have HTAB := Lib.hid htab
    have hnb : (((slotsN ws (pcl o) : Nat) : Int) == 0) = true := by simp; omega
    clear htab hn
    unfold fltV
    go_wp2_with (first
      | (go_at_call 95; with_reducible refine HIS.out.mono ?_; rintro e w4 ⟨rfl, rfl⟩)
      | (go_at_call 97; with_reducible refine HFM.out.mono ?_; rintro e w4 ⟨rfl, rfl⟩)
      | (go_at_call 98; refine HSL.out.mono ?_; rintro e w4 ⟨A4, c4, k4, rfl, hi4, rfl, hc4⟩))
    refine bodyPost_ret (v := .tuple #[.pointer none, .int .i64 3]) (by simp [results, Try.results135, go_sem]) rfl ⟨HX3.out.trans (belowN _ _ _), .inr (.inl ⟨H0.out, HTAB.out, rfl⟩)⟩
  have hnb : (((slotsN ws (pcl o) : Nat) : Int) == 0) = false := by simp; omega
  unfold fltV
  go_wp2_with (first
    | (go_at_call 95; with_reducible refine HIS.out.mono ?_; rintro e w4 ⟨rfl, rfl⟩)
    | (go_at_call 97; with_reducible refine HFM.out.mono ?_; rintro e w4 ⟨rfl, rfl⟩)
    | (go_at_call 98; refine HSL.out.mono ?_; rintro e w4 ⟨A4, c4, k4, rfl, hi4, rfl, hc4⟩))
  clear hi4 hc4 HIS HFM HSL
  refine (slotsv_any (HV.out.drewN k4) HW.out (by omega) (pcl o) HPB.out).mono ?_
  rintro e w5 ⟨A5, c5, k5, rfl, hi5, rfl, hc5⟩
  have hi5 := hi5.drewN k5
  rw [World.drewN_drewN] at hi5 ⊢
  have HX5 := Lib.hid (HX3.out.trans (belowN w.heap.size _ (k4 + k5)))
  have HV5 := Lib.hid (HV.out.drewN (k4 + k5))
  have HI5 := Lib.hid hi5
  have HLEN := Lib.hid (slotsL_len HPB.out)
  clear hi5 hc5 HX3 HV
  go_wp2_with fail
  generalize ((w2.alloc (.cells #[.int .i64 0, .int .i64 0] 36)).drewN (k4 + k5)) = w5 at *
  go_loopw [44] (fun i wr => ∃ j : Nat, i = .int .i64 (j : Int) ∧ j ≤ slotsN ws (pcl o) ∧ w5 = wr ∧ ∀ k, k < j → tslotB ws (nth (slotsL ws (pcl o)) k) = true) (fun i _ => slotsN ws (pcl o) - (intOf i).toNat)
  case atStart => exact ⟨0, rfl, Nat.zero_le _, rfl, fun k hk => absurd hk (Nat.not_lt_zero _)⟩
  case round =>
    obtain ⟨j, rfl, hj, rfl, hall⟩ := hrel
    have HALL := Lib.hid hall
    clear hall
    by_cases hjl : j < slotsN ws (pcl o)
    · have hjs : j < (slotsL ws (pcl o)).length := by rw [HLEN.out]; exact hjl
      obtain ⟨b5, o5, rfl, -, r5⟩ := HI5.out (by omega)
      have e1 := r5 j hjs
      have hsb : -9223372036854775808 ≤ nth (slotsL ws (pcl o)) j ∧ nth (slotsL ws (pcl o)) j ≤ 9223372036854775807 := by rw [slotsL_nth HPB.out hjl]; exact HW.out _
      have HJS := Lib.hid hjs
      have hNO : tslotB ws (nth (slotsL ws (pcl o)) j) = false → tabB ws o = false := tab_no hjs
      have HNO := Lib.hid hNO
      have HNX : Hid (tslotB ws (nth (slotsL ws (pcl o)) j) = true → ∀ k, k < j + 1 → tslotB ws (nth (slotsL ws (pcl o)) k) = true) := fun h k hk => by
        rcases Nat.lt_or_ge k j with hk2 | hk2
        · exact HALL.out k hk2
        · obtain rfl : k = j := by omega
          exact h
      clear r5 hjs hNO
      generalize nth (slotsL ws (pcl o)) j = s at *
      obtain ⟨hs1, hs2⟩ := hsb
      by_cases hs0 : s = 0
      · have HT := Lib.hid (HNX.out (by unfold tslotB; rw [hs0]; rfl))
        subst hs0
        clear HNO HNX
        go_wp2_with fail
        go_roundw
        case rel => exact ⟨j + 1, by go_num, by omega, (by first | rfl | trivial), HT.out⟩
        case measure => simp [intOf]; omega
      · have hsn : (s != 0) = true := by simpa using hs0
        have HIS := Lib.hid (isv_any HV5.out s hs1 hs2)
        cases hts : isTh ws s
        · rw [hts] at HIS
          have HTAB := Lib.hid (HNO.out (by unfold tslotB; rw [hts]; simpa using hs0))
          clear hts hs0 HNO HNX
          go_wp2_with (go_at_call 95; with_reducible refine HIS.out.mono ?_; rintro e w6 ⟨rfl, rfl⟩)
          refine bodyPost_ret (v := .tuple #[.pointer none, .int .i64 3]) (by simp [results, Try.results135, go_sem]) rfl ⟨HX5.out, .inr (.inl ⟨H0.out, HTAB.out, rfl⟩)⟩
        · rw [hts] at HIS
          obtain ⟨hm, ho, ho4', ho5'⟩ := isTh_mem hts
          have hpd : (s / 2).toNat = pcl s := rfl
          rw [hpd] at hm ho
          obtain ⟨p2', pl', pb'⟩ := places_mem hm
          obtain ⟨m1', -⟩ := not_bad pb'
          have hqs : s.tdiv 2 = ((pcl s : Nat) : Int) := by rw [Int.tdiv_eq_ediv_of_nonneg (by omega)]; omega
          have hqs2 : s / 2 = ((pcl s : Nat) : Int) := by omega
          have HFM := Lib.hid (formv_any HV5.out HW.out (by omega) (pcl s) (by omega))
          have hwp' : IntKind.i64.wrap ((pcl s : Nat) : Int) = ((pcl s : Nat) : Int) := IntWalk.i64_in _ (by omega)
          clear hm hpd pb' ho
          by_cases hf1 : formOf ws (pcl s) = 1
          · have HT := Lib.hid (HNX.out (by unfold tslotB; rw [hts, decide_eq_true hf1]; simp))
            have hfb1 : (formOf ws (pcl s) != 1) = false := by simpa using hf1
            clear hts hs0 HNO HNX hf1
            go_wp2_with (first
              | (go_at_call 95; with_reducible refine HIS.out.mono ?_; rintro e w6 ⟨rfl, rfl⟩)
              | (go_at_call 97; with_reducible refine HFM.out.mono ?_; rintro e w6 ⟨rfl, rfl⟩))
            go_roundw
            case rel => exact ⟨j + 1, by go_num, by omega, (by first | rfl | trivial), HT.out⟩
            case measure => simp [intOf]; omega
          · have HTAB := Lib.hid (HNO.out (by unfold tslotB; rw [hts, decide_eq_false hf1]; simpa using hs0))
            have hfb1 : (formOf ws (pcl s) != 1) = true := by simpa using hf1
            clear hts hs0 HNO HNX hf1
            go_wp2_with (first
              | (go_at_call 95; with_reducible refine HIS.out.mono ?_; rintro e w6 ⟨rfl, rfl⟩)
              | (go_at_call 97; with_reducible refine HFM.out.mono ?_; rintro e w6 ⟨rfl, rfl⟩))
            refine bodyPost_ret (v := .tuple #[.pointer none, .int .i64 3]) (by simp [results, Try.results135, go_sem]) rfl ⟨HX5.out, .inr (.inl ⟨H0.out, HTAB.out, rfl⟩)⟩
    · obtain rfl : j = slotsN ws (pcl o) := by omega
      have HTAB := Lib.hid (tab_yes HTH.out HF.out (by omega) (fun k hk => HALL.out k (by rw [HLEN.out] at hk; exact hk)))
      go_wp2_with fail
      refine bodyPost_ret (v := .tuple #[.pointer (some ⟨w5.heap.size, 0, none⟩), .int .i64 0]) (by simp [results, Try.results135, go_sem]) rfl ⟨HX5.out.alloc HX5.out.size _, .inr (.inr ⟨H0.out, HTAB.out, w5.heap.size, g, rfl, Blk.new _ _ _, HV5.out.below ((Below.refl _ _).alloc (Nat.le_refl _) _)⟩)⟩
end Go.Proofs.Ytjpppdacamhhfaa
