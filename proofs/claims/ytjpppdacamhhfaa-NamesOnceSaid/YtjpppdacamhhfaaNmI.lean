/- gessoref7.All, gessoref7.Intern. Conditions: a table of a heap that may be; for Intern a text of at most 60 bytes. -/
import Derived.Test.YtjpppdacamhhfaaNmH
import Derived.BigRegion
namespace Go.Proofs.Ytjpppdacamhhfaa
open Go.RowKit
set_option linter.unusedVariables false

def RAllOut (ts : List ByteArray) (w : World) (e : Ending) (w' : World) : Prop :=
  Below w.heap.size w w' ∧ ∃ A c, e = .returned (.slice A ts.length c) ∧ OwnS w' w.heap.size (.slice A ts.length c) ts

set_option maxRecDepth 100000 in
set_option maxHeartbeats 4000000 in
theorem rall_any (ws : List Int) (b o c : Nat) (x : Int) (w : World) (hr : Row w b o ws) (hlt : b < w.heap.size) (hcap : ws.length ≤ c) (hok : OkH ws) (hw : I64 ws) (htab : tabB ws x = true) (h1 : -9223372036854775808 ≤ x) (h2 : x ≤ 9223372036854775807) :
    Calls Try.prog 80 #[.agg #[.slice (some ⟨b, o, none⟩) ws.length c], .int .i64 x] w (RAllOut (allT ws x) w) := by
  have hx0 : Below w.heap.size w (w.alloc (.cells #[.slice (some ⟨b, o, none⟩) ws.length c] 33)) := (Below.refl _ _).alloc (Nat.le_refl _) _
  have HX0 := Lib.hid hx0
  have HR := Lib.hid (hr.below hx0 hlt)
  have HB0 := Lib.hid (Blk.new w 33 #[.slice (some ⟨b, o, none⟩) ws.length c])
  have hlt0 : b < (w.alloc (.cells #[.slice (some ⟨b, o, none⟩) ws.length c] 33)).heap.size := by rw [World.size_alloc]; omega
  have HOK := Lib.hid hok; have HW := Lib.hid hw; have HT := Lib.hid htab
  obtain ⟨hth, hfm, hsl⟩ := tab_parts htab
  have hpb := (places_mem (q := pcl x) (isTh_mem hth).1).2.2
  have HLEN := Lib.hid (slotsL_len hpb)
  have hn60 : slotsN ws (pcl x) ≤ 60 := by have := not_bad hpb; unfold slotsN; omega
  have HLK := Lib.hid (lkR_yes hth)
  clear hx0 hr hok hw htab hth hfm hpb
  go_enter Try.func80, Try.ntmps80
  go_wp2_with fail
  generalize (w.alloc (.cells #[.slice (some ⟨b, o, none⟩) ws.length c] 33)) = w1 at *
  refine ((rlook_any ws b o c x w1 HR.out hlt0 hcap HW.out HOK.out h1 h2).mono fun e w' h => lookU_R h).mono ?_
  rintro e w2 ⟨hb2, A2, c2, rfl, ho2⟩
  have HX2 := Lib.hid (HX0.out.trans (hb2.mono HX0.out.size))
  have HR2 := Lib.hid (HR.out.below hb2 hlt0); have HB2 := Lib.hid (HB0.out.below hb2 HB0.out.lt)
  have hlt2 : b < w2.heap.size := Nat.lt_of_lt_of_le hlt0 hb2.size
  clear hb2
  rw [HLK.out] at ho2 ⊢
  dsimp only at ho2 ⊢
  rw [HLEN.out] at ho2 ⊢
  have hi2 := (own_ints9b ho2).1
  have hx3 : Below w2.heap.size w2 (w2.alloc (.cells #[.int .i64 (nth ws (pcl x)), .int .i64 (nth ws (pcl x + 1)), .int .i64 (formOf ws (pcl x)), .slice A2 (slotsN ws (pcl x)) c2] 48)) := (Below.refl _ _).alloc (Nat.le_refl _) _
  have HX3 := Lib.hid (HX2.out.trans (hx3.mono HX2.out.size))
  have HF3 := Lib.hid (Blk.new w2 48 #[.int .i64 (nth ws (pcl x)), .int .i64 (nth ws (pcl x + 1)), .int .i64 (formOf ws (pcl x)), .slice A2 (slotsN ws (pcl x)) c2])
  have HI3 := Lib.hid (hi2.below hx3)
  have HR3 := Lib.hid (HR2.out.below hx3 hlt2); have HB3 := Lib.hid (HB2.out.below hx3 HB2.out.lt)
  have hlt3 : b < (w2.alloc (.cells #[.int .i64 (nth ws (pcl x)), .int .i64 (nth ws (pcl x + 1)), .int .i64 (formOf ws (pcl x)), .slice A2 (slotsN ws (pcl x)) c2] 48)).heap.size := by rw [World.size_alloc]; omega
  clear ho2 hi2 hx3 HR HR2 HB2
  unfold thingV
  go_wp2_with fail
  generalize (w2.alloc (.cells #[.int .i64 (nth ws (pcl x)), .int .i64 (nth ws (pcl x + 1)), .int .i64 (formOf ws (pcl x)), .slice A2 (slotsN ws (pcl x)) c2] 48)) = w3 at *
  generalize hF2 : w2.heap.size = F at *
  have HFE := Lib.hid hF2
  clear hF2 HX2
  go_loopw [8, 7] (fun i v wr => ∃ j : Nat, i = .int .i64 (j : Int) ∧ j ≤ slotsN ws (pcl x) ∧ OwnS wr w3.heap.size v (someT ws x j) ∧ Below w3.heap.size w3 wr) (fun i _ _ => slotsN ws (pcl x) - (intOf i).toNat)
  case atStart => exact ⟨0, rfl, Nat.zero_le _, OwnS.nil _ _, Below.refl _ _⟩
  case round =>
    obtain ⟨j, rfl, hj, hown, hb⟩ := hrel
    have HO := Lib.hid hown; have HBW := Lib.hid hb
    have hFF := HF3.out.below hb HF3.out.lt
    have hBB := HB3.out.below hb HB3.out.lt
    obtain ⟨z1, z2, z3, z4, z5, z6, z7, z8, z9⟩ := hFF.f4
    obtain ⟨u1, u2, u3⟩ := hBB.f1
    clear hown hFF hBB
    by_cases hjl : j < slotsN ws (pcl x)
    · have hjs : j < (slotsL ws (pcl x)).length := by rw [HLEN.out]; exact hjl
      obtain ⟨b5, o5, rfl, -, r5⟩ := (HI3.out.below hb) (by omega)
      have e1 := r5 j hjs
      have HSZ := Lib.hid (fun h => someT_zero (ws := ws) (o := x) hjs h)
      have HSS := Lib.hid (fun h => someT_some (ws := ws) (o := x) hjs h)
      have HTS := Lib.hid (tab_slot HT.out HOK.out hjl)
      have hsl2 := someT_len ws x j
      have hsb : -9223372036854775808 ≤ nth (slotsL ws (pcl x)) j ∧ nth (slotsL ws (pcl x)) j ≤ 9223372036854775807 := by
        have hpb := (places_mem (q := pcl x) (isTh_mem (tab_parts HT.out).1).1).2.2
        rw [slotsL_nth hpb hjl]; exact HW.out _
      have HRW := Lib.hid (HR3.out.below hb hlt3)
      have hltw : b < wr.drew.heap.size := Nat.lt_of_lt_of_le hlt3 hb.size
      clear hjs r5 hb
      generalize nth (slotsL ws (pcl x)) j = s at *
      by_cases hs0 : s = 0
      · have HT9 := Lib.hid (HSZ.out hs0)
        subst hs0
        clear HSZ HSS
        go_wp2_with fail
        go_roundw
        case rel => exact ⟨j + 1, by go_num, by omega, by rw [HT9.out]; exact HO.out, HBW.out⟩
        case measure => simp [intOf]; omega
      · have HT9 := Lib.hid (HSS.out hs0)
        have hsn : (s != 0) = true := by simpa using hs0
        have HTC := Lib.hid (tslot_cases HTS.out hs0)
        clear HSZ HSS hs0
        go_wp2_with fail
        go_still_tail 6, (by kernel_rfl)
        change wpList _ _ _ _ _ (World.drew wr)
        go_wp2_with fail
        refine (rtext_any ws b o c s wr.drew HRW.out hltw hcap HOK.out HW.out HTC.out.1 HTC.out.2 hsb.1 hsb.2).mono ?_
        rintro e w6 ⟨rfl, hb6⟩
        have hb6' : Below wr.heap.size wr w6 := below_of_drew hb6
        generalize txtS ws s = y at *
        have hown6 := HO.out.below hb6' (fun k hk => (HO.out.lt k hk).2)
        have hb56 := HBW.out.trans (hb6'.mono HBW.out.size)
        have HO6 := Lib.hid (hown6.alloc (.cells #[.string y] 9)); have HB6 := Lib.hid (hb56.alloc hb56.size (.cells #[.string y] 9))
        have HX := Lib.hid (cell_new w6 #[.string y] 9 (0, 0) 0)
        have HLT6 := Lib.hid (fun k hk => (HO.out.lt k hk).1)
        clear hown6 hb56 hb6 hb6' u1 u2 u3 z1 z2 z3 z4 z5 z6 z7 z8 z9 e1
        go_wp2_with (at_builtin; refine wpList_pushNS rfl _ _ rfl w3.heap.size _ (someT ws x j) rfl HO6.out w6.heap.size 1 y rfl HX.out (by omega) HB6.out.size ?_; intro g7 n7 cap7 w7 hown7 hg7 hgr7; have HO7 := Lib.hid hown7; have HB7 := Lib.hid (HB6.out.grown hgr7 HB6.out.size (fun q hq => HLT6.out q hq)); clear hown7 hgr7)
        go_roundw
        case rel => exact ⟨j + 1, by go_num, by omega, by rw [HT9.out]; exact HO7.out, HB7.out⟩
        case measure => simp [intOf]; omega
    · obtain rfl : j = slotsN ws (pcl x) := by omega
      have ho9 := HO.out
      rw [someT_all (by rw [HLEN.out]; exact Nat.le_refl _)] at ho9
      obtain ⟨A9, c9, rfl, -, -, -⟩ := ho9.form2
      have HO9 := Lib.hid ho9
      clear ho9 hb
      go_wp2_with fail
      exact bodyPost_ret (v := .slice A9 (allT ws x).length c9) (by simp [results, Try.results80, go_sem]) rfl ⟨HX3.out.trans (HBW.out.mono HX3.out.size), A9, c9, rfl, HO9.out.mono HX3.out.size⟩

/-- A heap that can be read, a number, a code. -/
def RHeapOut (r : List Int × Int × Int) (w : World) (e : Ending) (w' : World) : Prop :=
  Below w.heap.size w w' ∧ ∃ A c, e = .returned (.tuple #[.agg #[.slice A r.1.length c], .int .i64 r.2.1, .int .i64 r.2.2]) ∧ Ints w' A r.1 ∧ r.1.length ≤ c
theorem rheapOut_err {w w' : World} (o e : Int) (hb : Below w.heap.size w w') : RHeapOut ([], o, e) w (.returned (.tuple #[.agg #[.slice none 0 0], .int .i64 o, .int .i64 e])) w' :=
  ⟨hb, none, 0, rfl, Ints.nil _ _, Nat.le_refl _⟩
theorem layB_i64 {g : List Int} {p : Nat} {tx : ByteArray} (hg : I64 g) : ∀ n, I64 (layB g p tx n)
  | 0 => hg
  | n + 1 => fun j => by
    rw [layB_succ, nth_set_]
    have := bat_le tx n
    split
    · omega
    · exact layB_i64 hg n j
theorem newW_i64 {ws : List Int} {k : Nat} (hok : OkH ws) (hw : I64 ws) (he : newE ws 0 1 k = 0) : I64 (newW ws 0 1 k) := fun j => by
  obtain ⟨-, -, -, -, hk, hl, h1⟩ := newE_zero he
  have h0 := hok.w1
  by_cases e1 : j = 1
  · subst e1; rw [newW_nth_one hok.two]; omega
  · rcases Nat.lt_or_ge j ws.length with h | h
    · rw [newW_nth_lt hok.two h e1]; exact hw j
    · rcases Nat.lt_or_ge j (ws.length + 3) with h2 | h2
      · obtain ⟨i, hi, rfl⟩ : ∃ i, i < 3 ∧ j = ws.length + i := ⟨j - ws.length, by omega, by omega⟩
        rw [newW_nth_new i hi]
        have h4 : i = 0 ∨ i = 1 ∨ i = 2 := by omega
        rcases h4 with rfl | rfl | rfl
        · show _ ≤ (0 : Int) ∧ (0 : Int) ≤ _; omega
        · show _ ≤ nth ws 1 ∧ nth ws 1 ≤ _; omega
        · show _ ≤ 4 * (k : Int) + 1 ∧ 4 * (k : Int) + 1 ≤ _; omega
      · obtain ⟨i, rfl⟩ : ∃ i, j = ws.length + 3 + i := ⟨j - (ws.length + 3), by omega⟩
        rw [newW_nth_slot]; omega
theorem putW_lay (ws : List Int) (tx : ByteArray) (n : Nat) : putW (layB (newW ws 0 1 tx.size) ws.length tx n) (2 * (ws.length : Int)) n (bat tx n) = layB (newW ws 0 1 tx.size) ws.length tx (n + 1) := by
  unfold putW
  rw [show ((2 * (ws.length : Int)) / 2).toNat = ws.length by omega, Int.toNat_natCast]; rfl
theorem layN_len (ws : List Int) (tx : ByteArray) (n : Nat) : (layB (newW ws 0 1 tx.size) ws.length tx n).length = ws.length + 3 + tx.size := by
  rw [layB_len, newW_len_]
end Go.Proofs.Ytjpppdacamhhfaa
