/- names.All: all texts of a table. Conditions: the words are numbers of 64 bits. -/
import Derived.Test.YtjpppdacamhhfaaNmE
namespace Go.Proofs.Ytjpppdacamhhfaa
open Go.RowKit
set_option linter.unusedVariables false

def allF (ws : List Int) (o : Int) : List ByteArray × Int := if seeE ws o = 0 then (allT ws o, 0) else ([], seeE ws o)
/-- Texts of the call's own, a code. -/
def AllOut (r : List ByteArray × Int) (w : World) (e : Ending) (w' : World) : Prop :=
  Below w.heap.size w w' ∧ ∃ A c, e = .returned (.tuple #[.slice A r.1.length c, .int .i64 r.2]) ∧ OwnS w' w.heap.size (.slice A r.1.length c) r.1
theorem allOut_err {w w' : World} (e : Int) (hb : Below w.heap.size w w') : AllOut ([], e) w (.returned (.tuple #[.slice none 0 0, .int .i64 e])) w' := ⟨hb, none, 0, rfl, OwnS.nil _ _⟩
/-- The texts of the first slots. -/
def someT (ws : List Int) (o : Int) (j : Nat) : List ByteArray := (((slotsL ws (pcl o)).take j).filter fun s => s != 0).map (txtS ws)
theorem someT_zero {ws : List Int} {o : Int} {j : Nat} (hj : j < (slotsL ws (pcl o)).length) (h : nth (slotsL ws (pcl o)) j = 0) : someT ws o (j + 1) = someT ws o j := by
  unfold someT
  rw [List.take_succ_eq_append_getElem hj, List.filter_append, ← nth_eq hj, h]; simp
theorem someT_some {ws : List Int} {o : Int} {j : Nat} (hj : j < (slotsL ws (pcl o)).length) (h : nth (slotsL ws (pcl o)) j ≠ 0) : someT ws o (j + 1) = someT ws o j ++ [txtS ws (nth (slotsL ws (pcl o)) j)] := by
  unfold someT
  rw [List.take_succ_eq_append_getElem hj, List.filter_append, ← nth_eq hj, List.map_append]
  have : (nth (slotsL ws (pcl o)) j != 0) = true := by simpa using h
  simp [this]
theorem someT_all {ws : List Int} {o : Int} {j : Nat} (hj : (slotsL ws (pcl o)).length ≤ j) : someT ws o j = allT ws o := by
  unfold someT allT
  rw [List.take_of_length_le hj]
theorem someT_len (ws : List Int) (o : Int) (j : Nat) : (someT ws o j).length ≤ j := by
  unfold someT
  rw [List.length_map]
  exact Nat.le_trans (List.length_filter_le _ _) (List.length_take_le _ _)
theorem tslot_cases {ws : List Int} {s : Int} (h : tslotB ws s = true) (h0 : s ≠ 0) : isTh ws s = true ∧ formOf ws (pcl s) = 1 := by
  unfold tslotB at h
  rw [Bool.or_eq_true, beq_iff_eq, Bool.and_eq_true, decide_eq_true_iff] at h
  rcases h with h | h
  · exact absurd h h0
  · exact h

set_option maxRecDepth 100000 in
set_option maxHeartbeats 4000000 in
theorem all_any (ws : List Int) (o : Int) (A : Option Addr) (c : Nat) (w : World) (hA : Ints w A ws) (hcap : ws.length ≤ c) (hw : I64 ws) (hl : ws.length ≤ 9223372036854775807) (h1 : -9223372036854775808 ≤ o) (h2 : o ≤ 9223372036854775807) :
    Calls Try.prog 77 #[.agg #[.slice A ws.length c], .int .i64 o] w (AllOut (allF ws o) w) := by
  have hx0 : Below w.heap.size w (w.alloc (.cells #[.slice A ws.length c] 33)) := (Below.refl _ _).alloc (Nat.le_refl _) _
  have HX0 := Lib.hid hx0
  have HA := Lib.hid (hA.below hx0); have HW := Lib.hid hw
  clear hx0 hA hw
  go_enter Try.func77, Try.ntmps77
  go_wp2_with fail
  generalize (w.alloc (.cells #[.slice A ws.length c] 33)) = w1 at *
  refine (tsee_any ws o A c w1 HA.out hcap HW.out hl h1 h2).mono ?_
  rintro e w2 ⟨hb2, h⟩
  have HX2 := Lib.hid (HX0.out.trans (hb2.mono HX0.out.size))
  clear hb2
  rcases h with ⟨h0, rfl⟩ | ⟨h0, ht, rfl⟩ | ⟨h0, ht, T, g, rfl, hT, hv⟩
  · have HE : Hid (allF ws o = ([], 7)) := by
      show _ = _
      have : seeE ws o = 7 := by unfold seeE; rw [if_pos h0]
      unfold allF; rw [this]; rfl
    clear h0
    go_wp2_with fail
    rw [HE.out]
    exact bodyPost_ret (v := .tuple #[.slice none 0 0, .int .i64 7]) (by simp [results, Try.results77, go_sem]) rfl (allOut_err 7 HX2.out)
  · have HE : Hid (allF ws o = ([], 3)) := by
      show _ = _
      have : seeE ws o = 3 := by unfold seeE; rw [if_neg (not_not_intro h0), if_pos ht]
      unfold allF; rw [this]; rfl
    clear h0 ht
    go_wp2_with fail
    rw [HE.out]
    exact bodyPost_ret (v := .tuple #[.slice none 0 0, .int .i64 3]) (by simp [results, Try.results77, go_sem]) rfl (allOut_err 3 HX2.out)
  · have HE : Hid (allF ws o = (allT ws o, 0)) := by
      show _ = _
      have : seeE ws o = 0 := by unfold seeE; rw [if_neg (not_not_intro h0), if_neg (by rw [ht]; decide)]
      unfold allF; rw [this]; rfl
    have hok : OkH ws := okB_iff.1 (by unfold okB; simp [h0])
    have HT := Lib.hid ht; have HB := Lib.hid hT; have HV := Lib.hid hv; have HOK := Lib.hid hok
    have hth := (tab_parts ht).1
    have hpb := (places_mem (q := pcl o) (isTh_mem hth).1).2.2
    have HLEN := Lib.hid (slotsL_len hpb)
    have hn60 : slotsN ws (pcl o) ≤ 60 := by have := not_bad hpb; unfold slotsN; omega
    obtain ⟨t1, t2, t3, t4, t5⟩ := hT.f2
    obtain ⟨b, q, cs, hlt, hcl, hcs⟩ := tab_reads hv hok HW.out ht
    have HCL := Lib.hid hcl; have HCS := Lib.hid hcs
    have HLT := Lib.hid hlt
    clear h0 ht hT hv hok hth hpb hcl hcs hlt
    go_wp2_with fail
    go_quiet ((go_at_call 98; exact quiet_draws (HCL.out _)))
    go_wp2_with fail
    have HB5 := Lib.hid (HB.out.drewN nq); have HV5 := Lib.hid (HV.out.drewN nq)
    have HCS5 : Hid (∀ j, j < slotsN ws (pcl o) → (w2.drewN nq).cell? ⟨b, q + j, none⟩ = some (.int .i64 (nth (slotsL ws (pcl o)) j))) := HCS.out
    have HX5 := Lib.hid (HX2.out.trans (belowN _ _ nq))
    have HLT5 : Hid (b < (w2.drewN nq).heap.size) := HLT.out
    clear HB HV HCS HX2 HCL t1 t2 t3 t4 t5 HLT
    generalize w2.drewN nq = w5 at *
    go_loopw [30, 8] (fun i v wr => ∃ j : Nat, i = .int .i64 (j : Int) ∧ j ≤ slotsN ws (pcl o) ∧ OwnS wr w5.heap.size v (someT ws o j) ∧ Below w5.heap.size w5 wr) (fun i _ _ => slotsN ws (pcl o) - (intOf i).toNat)
    case atStart => exact ⟨0, rfl, Nat.zero_le _, OwnS.nil _ _, Below.refl _ _⟩
    case round =>
      obtain ⟨j, rfl, hj, hown, hb⟩ := hrel
      have HO := Lib.hid hown; have HBW := Lib.hid hb
      have hws := hb.size
      clear hown hb
      by_cases hjl : j < slotsN ws (pcl o)
      · have hjs : j < (slotsL ws (pcl o)).length := by rw [HLEN.out]; exact hjl
        have e1 := (HBW.out.cell (p := ⟨b, q + j, none⟩) HLT5.out).trans (HCS5.out j hjl)
        have HSZ := Lib.hid (fun h => someT_zero (ws := ws) (o := o) hjs h)
        have HSS := Lib.hid (fun h => someT_some (ws := ws) (o := o) hjs h)
        have HTS := Lib.hid (tab_slot HT.out HOK.out hjl)
        have hsl := someT_len ws o j
        clear hjs
        generalize nth (slotsL ws (pcl o)) j = s at *
        by_cases hs0 : s = 0
        · have HT9 := Lib.hid (HSZ.out hs0)
          subst hs0
          clear HSZ HSS
          go_wp2_with fail
          go_roundw
          case rel => exact ⟨j + 1, by go_num, by omega, by rw [HT9.out]; exact HO.out, HBW.out⟩
          case measure => simp [intOf]; omega
        · have HT9 := Lib.hid (HSS.out hs0)
          have hsn : (s != 0) = true := by simpa using hs0
          have HTC := Lib.hid (tslot_cases HTS.out hs0)
          have HBK := Lib.hid (HB5.out.below HBW.out HB5.out.lt)
          have HVK := Lib.hid (HV5.out.below HBW.out)
          clear HSZ HSS hs0
          go_wp2_with fail
          refine (text_any ws T g (.int .i64 (pcl o : Int)) s wr HBK.out HVK.out HOK.out HW.out HTC.out.1 HTC.out.2).mono ?_
          rintro e w6 ⟨rfl, hb6⟩
          generalize txtS ws s = y at *
          have hown6 := HO.out.below hb6 (fun k hk => (HO.out.lt k hk).2)
          have hb56 := HBW.out.trans (hb6.mono HBW.out.size)
          have HO6 := Lib.hid (hown6.alloc (.cells #[.string y] 9)); have HB6 := Lib.hid (hb56.alloc hb56.size (.cells #[.string y] 9))
          have HX := Lib.hid (cell_new w6 #[.string y] 9 (0, 0) 0)
          have HLT6 := Lib.hid (fun k hk => (HO.out.lt k hk).1)
          clear hown6 hb56 hb6
          go_wp2_with (at_builtin; refine wpList_pushNS rfl _ _ rfl w5.heap.size _ (someT ws o j) rfl HO6.out w6.heap.size 1 y rfl HX.out (by omega) HB6.out.size ?_; intro g7 n7 cap7 w7 hown7 hg7 hgr7; have HO7 := Lib.hid hown7; have HB7 := Lib.hid (HB6.out.grown hgr7 HB6.out.size (fun q hq => HLT6.out q hq)); clear hown7 hgr7)
          go_roundw
          case rel => exact ⟨j + 1, by go_num, by omega, by rw [HT9.out]; exact HO7.out, HB7.out⟩
          case measure => simp [intOf]; omega
      · obtain rfl : j = slotsN ws (pcl o) := by omega
        have ho9 := HO.out
        rw [someT_all (by rw [HLEN.out]; exact Nat.le_refl _)] at ho9
        obtain ⟨A9, c9, rfl, -, -, -⟩ := ho9.form2
        have HO9 := Lib.hid ho9
        clear ho9
        go_wp2_with fail
        rw [HE.out]
        exact bodyPost_ret (v := .tuple #[.slice A9 (allT ws o).length c9, .int .i64 0]) (by simp [results, Try.results77, go_sem]) rfl ⟨HX5.out.trans (HBW.out.mono HX5.out.size), A9, c9, rfl, HO9.out.mono HX5.out.size⟩
end Go.Proofs.Ytjpppdacamhhfaa
