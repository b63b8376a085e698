/- gessoref7.Intern makes a text known. Conditions: a table of a heap that may be, a text of at most 60 bytes. -/
import Derived.Test.YtjpppdacamhhfaaNmI
import Derived.Test.YtjpppdacamhhfaaRNew
import Derived.Deep.RegionLaw
namespace Go.Proofs.Ytjpppdacamhhfaa
open Go.RowKit
set_option linter.unusedVariables false

set_option maxRecDepth 100000 in
set_option maxHeartbeats 4000000 in
theorem rintern_any (ws : List Int) (b o c : Nat) (x : Int) (tx : ByteArray) (w : World) (hr : Row w b o ws) (hlt : b < w.heap.size) (hcap : ws.length ≤ c) (hok : OkH ws) (hw : I64 ws) (htab : tabB ws x = true) (htx : tx.size ≤ 60) (h1 : -9223372036854775808 ≤ x) (h2 : x ≤ 9223372036854775807) :
    Calls Try.prog 82 #[.agg #[.slice (some ⟨b, o, none⟩) ws.length c], .int .i64 x, .string tx] w (RHeapOut (intT ws x tx) w) := by
  have hx0 : Below w.heap.size w ((w.alloc (.cells #[.slice (some ⟨b, o, none⟩) ws.length c] 33)).alloc (.cells #[.slice none 0 0] 33)) := ((Below.refl _ _).alloc (Nat.le_refl _) _).alloc (by simp) _
  have HX0 := Lib.hid hx0
  have HR := Lib.hid (hr.below hx0 hlt)
  have hb0 : Blk ((w.alloc (.cells #[.slice (some ⟨b, o, none⟩) ws.length c] 33)).alloc (.cells #[.slice none 0 0] 33)) w.heap.size 33 #[.slice (some ⟨b, o, none⟩) ws.length c] := (Blk.new _ _ _).alloc _
  have hr0 : Blk ((w.alloc (.cells #[.slice (some ⟨b, o, none⟩) ws.length c] 33)).alloc (.cells #[.slice none 0 0] 33)) (w.heap.size + 1) 33 #[.slice none 0 0] := by
    have := Blk.new (w.alloc (.cells #[.slice (some ⟨b, o, none⟩) ws.length c] 33)) 33 #[.slice none 0 0]
    simpa using this
  have HB0 := Lib.hid hb0; have HQ0 := Lib.hid hr0
  have hz1 : w.heap.size + 2 ≤ ((w.alloc (.cells #[.slice (some ⟨b, o, none⟩) ws.length c] 33)).alloc (.cells #[.slice none 0 0] 33)).heap.size := by simp
  have hlt0 : b < ((w.alloc (.cells #[.slice (some ⟨b, o, none⟩) ws.length c] 33)).alloc (.cells #[.slice none 0 0] 33)).heap.size := by simp; omega
  have HOK := Lib.hid hok; have HW := Lib.hid hw; have HT := Lib.hid htab
  obtain ⟨hth, hfm, hsl⟩ := tab_parts htab
  have hpb := (places_mem (q := pcl x) (isTh_mem hth).1).2.2
  have HLEN := Lib.hid (slotsL_len hpb)
  have hn60 : slotsN ws (pcl x) ≤ 60 := by have := not_bad hpb; unfold slotsN; omega
  have HLK := Lib.hid (lkR_yes hth)
  have hwn : IntKind.i64.wrap ((tx.size : Nat) : Int) = ((tx.size : Nat) : Int) := IntWalk.i64_in _ (by omega)
  obtain ⟨l1, l2⟩ : 2 ≤ ws.length ∧ ws.length ≤ 2000 := ⟨hok.two, hok.most⟩
  clear hx0 hr hok hw htab hth hfm hpb hb0 hr0
  go_enter Try.func82, Try.ntmps82
  go_wp2_with fail
  generalize ((w.alloc (.cells #[.slice (some ⟨b, o, none⟩) ws.length c] 33)).alloc (.cells #[.slice none 0 0] 33)) = w1 at *
  refine ((rlook_any ws b o c x w1 HR.out hlt0 hcap HW.out HOK.out h1 h2).mono fun e w' h => lookU_R h).mono ?_
  rintro e w2 ⟨hb2, A2, c2, rfl, ho2⟩
  have HX2 := Lib.hid (HX0.out.trans (hb2.mono HX0.out.size))
  have HR2 := Lib.hid (HR.out.below hb2 hlt0); have HB2 := Lib.hid (HB0.out.below hb2 HB0.out.lt); have HQ2 := Lib.hid (HQ0.out.below hb2 HQ0.out.lt)
  have hlt2 : b < w2.heap.size := Nat.lt_of_lt_of_le hlt0 hb2.size
  clear hb2
  rw [HLK.out] at ho2 ⊢
  dsimp only at ho2 ⊢
  rw [HLEN.out] at ho2 ⊢
  have hi2 := (own_ints9b ho2).1
  have hab : ∀ a, A2 = some a → w.heap.size + 2 ≤ a.block := by
    obtain ⟨A', c', e, -, -, hh⟩ := ho2.form2
    injection e with e1
    subst e1
    intro a ha
    have := (hh a ha).1
    omega
  have HAB := Lib.hid hab
  clear hab hz1
  have hx3 : Below w2.heap.size w2 (w2.alloc (.cells #[.int .i64 (nth ws (pcl x)), .int .i64 (nth ws (pcl x + 1)), .int .i64 (formOf ws (pcl x)), .slice A2 (slotsN ws (pcl x)) c2] 48)) := (Below.refl _ _).alloc (Nat.le_refl _) _
  have HX3 := Lib.hid (HX2.out.trans (hx3.mono HX2.out.size))
  have HF3 := Lib.hid (Blk.new w2 48 #[.int .i64 (nth ws (pcl x)), .int .i64 (nth ws (pcl x + 1)), .int .i64 (formOf ws (pcl x)), .slice A2 (slotsN ws (pcl x)) c2])
  have HI3 := Lib.hid (hi2.below hx3)
  have HR3 := Lib.hid (HR2.out.below hx3 hlt2); have HB3 := Lib.hid (HB2.out.below hx3 HB2.out.lt); have HQ3 := Lib.hid (HQ2.out.below hx3 HQ2.out.lt)
  have hlt3 : b < (w2.alloc (.cells #[.int .i64 (nth ws (pcl x)), .int .i64 (nth ws (pcl x + 1)), .int .i64 (formOf ws (pcl x)), .slice A2 (slotsN ws (pcl x)) c2] 48)).heap.size := by rw [World.size_alloc]; omega
  obtain ⟨u1, u2, u3⟩ := HB3.out.f1
  clear ho2 hi2 hx3 HR HR2 HB2
  unfold thingV
  go_wp2_with fail
  generalize (w2.alloc (.cells #[.int .i64 (nth ws (pcl x)), .int .i64 (nth ws (pcl x + 1)), .int .i64 (formOf ws (pcl x)), .slice A2 (slotsN ws (pcl x)) c2] 48)) = w3 at *
  generalize hF2 : w2.heap.size = F at *
  have HFE := Lib.hid hF2
  clear hF2 HX2
  refine (rseat_any ws b o c x tx w3 HR3.out hlt3 hcap HOK.out HW.out HT.out htx h1 h2).mono ?_
  rintro e w4 ⟨rfl, hb4⟩
  have HX4 := Lib.hid (HX3.out.trans (hb4.mono HX3.out.size))
  have hF4 := HF3.out.below hb4 HF3.out.lt
  have HB4 := Lib.hid (HB3.out.below hb4 HB3.out.lt); have HQ4 := Lib.hid (HQ3.out.below hb4 HQ3.out.lt)
  have HR4 := Lib.hid (HR3.out.below hb4 hlt3)
  have hlt4 : b < w4.heap.size := Nat.lt_of_lt_of_le hlt3 hb4.size
  obtain ⟨z1, z2, z3, z4, z5, z6, z7, z8, z9⟩ := hF4.f4
  have hi4 := HI3.out.below hb4
  clear hF4 hb4 u1 u2 u3
  obtain ⟨u1, u2, u3⟩ := HB4.out.f1
  obtain ⟨v1, v2, v3⟩ := HQ4.out.f1
  have HFT : Hid (intT ws x tx = if seatF ws tx (pcl x) < 0 then ([], 0, 6) else if nth (slotsL ws (pcl x)) (seatF ws tx (pcl x)).toNat ≠ 0 then (ws, nth (slotsL ws (pcl x)) (seatF ws tx (pcl x)).toNat, 0) else if newE ws 0 1 tx.size = 0 then ((layB (newW ws 0 1 tx.size) ws.length tx tx.size).set (pcl x + 3 + (seatF ws tx (pcl x)).toNat) (2 * ws.length), 2 * (ws.length : Int), 0) else ([], 0, newE ws 0 1 tx.size)) := rfl
  rcases seatF_range (ws := ws) (tx := tx) (p := pcl x) hsl with e0 | ⟨k, hk, e0, -⟩
  · rw [e0] at HFT ⊢
    have HE : Hid (intT ws x tx = ([], 0, 6)) := by show _ = _; rw [HFT.out, if_pos (by omega)]
    clear HFT e0 hi4
    go_wp2_with fail
    rw [HE.out]
    exact bodyPost_ret (v := .tuple #[.agg #[.slice none 0 0], .int .i64 0, .int .i64 6]) (by simp [results, Try.results82, go_sem, v1]) rfl (rheapOut_err _ _ (HX4.out.setCell (by simp) _))
  rw [e0, Int.toNat_natCast, if_neg (show ¬ ((k : Nat) : Int) < 0 by omega)] at HFT
  rw [e0]
  obtain ⟨b5, o5, rfl, -, r5⟩ := hi4 (by rw [HLEN.out]; omega)
  have e1 := r5 k (by rw [HLEN.out]; exact hk)
  have hn5 : ¬ b5 = w.heap.size + 1 := by have := HAB.out _ rfl; dsimp only at this; omega
  have hn6 : ¬ w.heap.size = w.heap.size + 1 := by omega
  have hwk : IntKind.i64.wrap ((k : Nat) : Int) = ((k : Nat) : Int) := IntWalk.i64_in _ (by omega)
  generalize nth (slotsL ws (pcl x)) k = s at *
  clear e0 r5 hi4
  by_cases hs0 : s = 0
  case neg =>
    have HE : Hid (intT ws x tx = (ws, s, 0)) := by show _ = _; rw [HFT.out, if_pos hs0]
    have hsb : (s != 0) = true := by simpa using hs0
    clear HFT hs0
    go_wp2_with fail
    go_region
    go_wp2_with fail
    rw [HE.out]
    try rw [HE.out]
    exact bodyPost_ret (v := .tuple #[.agg #[.slice (some ⟨b, o, none⟩) ws.length c], .int .i64 s, .int .i64 0]) (by simp [results, Try.results82, go_sem, v1]) rfl ⟨(HX4.out.setCell (p := ⟨w.heap.size + 1, 0, none⟩) (by simp) _).drew, some ⟨b, o, none⟩, c, rfl, fun _ => ⟨b, o, rfl, by simpa using hlt4, HR4.out.below (((Below.refl (w.heap.size + 1) w4).setCell (p := ⟨w.heap.size + 1, 0, none⟩) (Nat.le_refl _) _).drew) (by omega)⟩, hcap⟩
  have HF3' : Hid (intT ws x tx = if newE ws 0 1 tx.size = 0 then ((layB (newW ws 0 1 tx.size) ws.length tx tx.size).set (pcl x + 3 + k) (2 * ws.length), 2 * (ws.length : Int), 0) else ([], 0, newE ws 0 1 tx.size)) := by show _ = _; rw [HFT.out]; exact if_neg (not_not_intro hs0)
  have HN := Lib.hid ((rnew_any ws b o c 0 1 tx.size w4 HR4.out hlt4 HW.out HOK.out (by omega) (by omega) (by omega) (by omega) (by omega) (by omega)))
  subst hs0
  clear HFT
  go_wp2_with fail
  refine HN.out.mono ?_
  rintro e w5 ⟨hb5, A5, c5, rfl, ho5⟩
  have HX5 := Lib.hid (HX4.out.trans (hb5.mono HX4.out.size))
  have HQ5 := Lib.hid (HQ4.out.below hb5 HQ4.out.lt)
  have hsz5 := hb5.size
  have HB45 := Lib.hid hb5
  clear hb5 HN v1 v2 v3 u1 u2 u3 z1 z2 z3 z4 z5 z6 z7 z8 z9 e1
  by_cases hE : newE ws 0 1 tx.size = 0
  case neg =>
    have hne : (newE ws 0 1 tx.size != 0) = true := by simpa using hE
    have HE : Hid (intT ws x tx = ([], 0, newE ws 0 1 tx.size)) := by show _ = _; rw [HF3'.out, if_neg hE]
    have hnr : newR ws 0 1 tx.size = ([], 0, newE ws 0 1 tx.size) := by unfold newR; rw [if_neg hE]
    rw [hnr] at ho5 ⊢
    simp only [List.length_nil] at ho5 ⊢
    have HQ6 := Lib.hid (HQ5.out.alloc (.cells #[.slice A5 0 c5] 33))
    obtain ⟨v1, v2, v3⟩ := HQ6.out.f1
    clear hE hnr ho5 HF3'
    generalize newE ws 0 1 tx.size = E at *
    go_wp2_with fail
    rw [HE.out]
    exact bodyPost_ret (v := .tuple #[.agg #[.slice none 0 0], .int .i64 0, .int .i64 E]) (by simp [results, Try.results82, go_sem, v1]) rfl (rheapOut_err _ _ ((HX5.out.alloc HX5.out.size _).setCell (by simp) _))
  have hnr : newR ws 0 1 tx.size = (newW ws 0 1 tx.size, 2 * (ws.length : Int), 0) := by unfold newR; rw [if_pos hE]
  rw [hnr] at ho5 ⊢
  dsimp only at ho5 ⊢
  have HE : Hid (intT ws x tx = ((layB (newW ws 0 1 tx.size) ws.length tx tx.size).set (pcl x + 3 + k) (2 * ws.length), 2 * (ws.length : Int), 0)) := by show _ = _; rw [HF3'.out, if_pos hE]
  obtain ⟨hmd, hl1, hl2⟩ := made_of HOK.out HT.out htx hE hk
  have hIW := newW_i64 HOK.out HW.out hE
  have HL1 := Lib.hid hl1; have HL2 := Lib.hid hl2; have HIW := Lib.hid hIW
  have hsm := (newE_zero hE).2.2.2.2.2.1
  have hlen5 : (newW ws 0 1 tx.size).length = ws.length + 3 + tx.size := newW_len_ ..
  rw [hlen5] at ho5 ⊢
  obtain ⟨hi5, hc5⟩ := own_ints9b ho5
  have hx6 : Below w5.heap.size w5 (w5.alloc (.cells #[.slice A5 (ws.length + 3 + tx.size) c5] 33)) := (Below.refl _ _).alloc (Nat.le_refl _) _
  have HG6 := Lib.hid (Blk.new w5 33 #[.slice A5 (ws.length + 3 + tx.size) c5])
  have HI6 := Lib.hid (hi5.below hx6)
  have HX6 := Lib.hid (HX5.out.trans (hx6.mono HX5.out.size))
  have HQ6 := Lib.hid (HQ5.out.below hx6 HQ5.out.lt)
  clear hE hnr hlen5 ho5 hi5 hmd hl1 hl2 hIW HF3' hx6
  go_wp2_with fail
  generalize (w5.alloc (.cells #[.slice A5 (ws.length + 3 + tx.size) c5] 33)) = w6 at *
  generalize hG : w5.heap.size = G at *
  have HGE := Lib.hid hG
  clear hG
  go_loopw [15] (fun i wr => ∃ (j : Nat) (A : Option Addr) (cc : Nat), i = .int .i64 (j : Int) ∧ j ≤ tx.size ∧ Blk wr G 33 #[.slice A (ws.length + 3 + tx.size) cc] ∧ Ints wr A (layB (newW ws 0 1 tx.size) ws.length tx j) ∧ ws.length + 3 + tx.size ≤ cc ∧ Below G w6 wr) (fun i _ => tx.size - (intOf i).toNat)
  case atStart => exact ⟨0, A5, c5, rfl, Nat.zero_le _, HG6.out, HI6.out, hc5, Below.refl _ _⟩
  case round =>
    obtain ⟨j, A, cc, rfl, hj, hgb, hia, hcc, hbw⟩ := hrel
    have HGB := Lib.hid hgb; have HBW := Lib.hid hbw
    obtain ⟨g1, g2, g3⟩ := hgb.f1
    obtain ⟨ba, oa, rfl, hba, hra⟩ := hia (by rw [layN_len]; omega)
    by_cases hjl : j < tx.size
    · have hbt := bat_get hjl
      have hb := bat_le tx j
      have hwb : IntKind.i64.wrap ((bat tx j : Nat) : Int) = ((bat tx j : Nat) : Int) := IntWalk.i64_in _ (by omega)
      have hst := (HL1.out j hj).2 hjl
      have hct := rput_any (layB (newW ws 0 1 tx.size) ws.length tx j) ba oa cc (2 * (ws.length : Int)) j (bat tx j) wr.drew hra hba (by rw [layN_len]; exact hcc) (layB_i64 HIW.out j) (HL1.out j hj).1 (by omega) (by omega) (by omega) (by omega) (by omega) (by omega)
      have hpr : putR (layB (newW ws 0 1 tx.size) ws.length tx j) (2 * (ws.length : Int)) j (bat tx j) = (layB (newW ws 0 1 tx.size) ws.length tx (j + 1), 0) := by unfold putR; rw [if_pos hst, putW_lay]
      rw [hpr, layN_len] at hct
      have HCT := Lib.hid hct
      have hll := layN_len ws tx (j + 1)
      have HLL := Lib.hid hll
      clear hst hct hpr hgb hbw hia hra hll
      go_wp2_with fail
      go_region_law (first
        | (go_simp; go_at_call 52; (with_reducible refine HCT.out.mono ?_); rintro e w7 ⟨hb7, A7, c7, rfl, ho7⟩; have hb7' : Below wr.heap.size wr w7 := below_of_drew hb7; obtain ⟨y1, y2, y3⟩ := (HGB.out.below hb7' HGB.out.lt).f1))
      all_goals
        dsimp only at ho7 ⊢
        rw [HLL.out] at ho7 ⊢
        have HG7 := Lib.hid (HGB.out.below hb7' HGB.out.lt)
        have HX7 := Lib.hid (HBW.out.trans (hb7'.mono (Nat.le_of_lt g3)))
        have hwg : G < wr.drew.heap.size := g3
        have ho8 := ho7.setCell ⟨G, 0, none⟩ (by intro e; have := (ho7.lt _ e).1; dsimp only at this; omega) (.slice A7 (ws.length + 3 + tx.size) c7)
        have HI8 := Lib.hid (own_ints9b ho8)
        clear g1 g2 g3 ho7 ho8 hb7 hb7' HCT y1 y2 y3
        go_wp2_with fail
        go_roundw
        case rel => exact ⟨j + 1, A7, c7, by go_num, by omega, HG7.out.set_ 0 _, HI8.out.1, HI8.out.2, HX7.out.setCell (Nat.le_refl _) _⟩
        case measure => simp [intOf]; omega
    · obtain rfl : j = tx.size := by omega
      have hct := rput_any (layB (newW ws 0 1 tx.size) ws.length tx tx.size) ba oa cc x k (2 * (ws.length : Int)) wr hra hba (by rw [layN_len]; exact hcc) (layB_i64 HIW.out _) (HL1.out _ hj).1 h1 h2 (by omega) (by omega) (by omega) (by omega)
      have hpr : putR (layB (newW ws 0 1 tx.size) ws.length tx tx.size) x k (2 * (ws.length : Int)) = ((layB (newW ws 0 1 tx.size) ws.length tx tx.size).set (pcl x + 3 + k) (2 * ws.length), 0) := by
        unfold putR; rw [if_pos HL2.out]; unfold putW; rw [Int.toNat_natCast]; rfl
      have hll : ((layB (newW ws 0 1 tx.size) ws.length tx tx.size).set (pcl x + 3 + k) (2 * (ws.length : Int))).length = ws.length + 3 + tx.size := by rw [List.length_set, layN_len]
      rw [hpr, layN_len] at hct
      have HCT := Lib.hid hct
      have HLL := Lib.hid hll
      have hR0 := HQ5.out.lt
      have hRG := HGE.out
      have hQ7 := HQ6.out.below (hbw.mono (show w.heap.size + 2 ≤ G by omega)) (by omega)
      have HX7 := Lib.hid (HX6.out.trans (hbw.mono (show w.heap.size ≤ G by omega)))
      have hR1 : w.heap.size + 1 < G := by omega
      clear hct hpr hgb hbw hia hra hll hR0 hRG
      go_wp2_with fail
      refine HCT.out.mono ?_
      rintro e w8 ⟨hb8, A8, c8, rfl, ho8⟩
      dsimp only at ho8 ⊢
      rw [HLL.out] at ho8 ⊢
      have HQ8 := Lib.hid (hQ7.below hb8 hQ7.lt)
      have hG8 := HGB.out.below hb8 HGB.out.lt
      have HX8 := Lib.hid (HX7.out.trans (hb8.mono (HX7.out.size)))
      have HO8 := Lib.hid ho8
      have hg3 := g3
      clear g1 g2 g3 ho8 hb8 HCT hQ7
      obtain ⟨g1, g2, g3⟩ := hG8.f1
      obtain ⟨v1, v2, v3⟩ := HQ8.out.f1
      have hn7 : ¬ w.heap.size + 1 = G := by omega
      have hn8 : ¬ G = w.heap.size + 1 := by omega
      clear hG8
      go_wp2_with fail
      rw [HE.out]
      have ho9 := (HO8.out.setCell ⟨G, 0, none⟩ (by intro e; have := (HO8.out.lt _ e).1; dsimp only at this; omega) (.slice A8 (ws.length + 3 + tx.size) c8)).setCell ⟨w.heap.size + 1, 0, none⟩ (by intro e; have := (HO8.out.lt _ e).1; dsimp only at this; omega) (.slice A8 (ws.length + 3 + tx.size) c8)
      have hv9 := ((HQ8.out.far (p := ⟨G, 0, none⟩) (by dsimp only; omega) (.slice A8 (ws.length + 3 + tx.size) c8)).set_ 0 (.slice A8 (ws.length + 3 + tx.size) c8)).f1.1
      obtain ⟨hi9, hc9⟩ := own_ints9b ho9
      refine bodyPost_ret (v := .tuple #[.agg #[.slice A8 (ws.length + 3 + tx.size) c8], .int .i64 (2 * (ws.length : Int)), .int .i64 0]) (by simp [results, Try.results82, go_sem, hv9]) rfl ⟨(HX8.out.setCell (by dsimp only; omega) _).setCell (by simp) _, A8, c8, ?_, hi9, by rw [HLL.out]; exact hc9⟩
      rw [HLL.out]
end Go.Proofs.Ytjpppdacamhhfaa
