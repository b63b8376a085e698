/- sweep.Collect computes what is laid in the order of places. Conditions: numbers of 64 bits. -/
import Derived.Test.YtjpppdacamhhfaaNow
import Derived.Test.YtjpppdacamhhfaaMem5
import Derived.Test.YtjpppdacamhhfaaSeen
import Derived.Test.YtjpppdacamhhfaaDone
namespace Go.Proofs.Ytjpppdacamhhfaa
open Go.RowKit
set_option linter.unusedVariables false

/-- What a sweep tells: a fault and nothing, or what is laid. -/
def SweepTold (ws rs : List Int) (w : World) (e : Ending) (w' : World) : Prop :=
  (∃ X Y, DoneOut (rootsF ws rs) (X, Y) w e w' ∧ (((rootsF ws rs).1 ≠ 0 ∧ X = [] ∧ Y = []) ∨ ((rootsF ws rs).1 = 0 ∧ ∃ f, Tells ws rs f ∧ X = arrW ws ((places ws).filter f) ∧ Y = arrR ws rs ((places ws).filter f))))

section
variable (ws rs : List Int) (A B : Option Addr) (c d : Nat) (w : World) (hA : Ints w A ws) (hcap : ws.length ≤ c) (hw : I64 ws) (hl : ws.length ≤ 9223372036854775807)
    (hB : Ints w B rs) (hr : I64 rs) (hrl : rs.length ≤ 1000000)
include hA hcap hw hl hB hr hrl

set_option maxRecDepth 100000 in
set_option maxHeartbeats 4000000 in
theorem collect_any : Calls Try.prog 63 #[.agg #[.slice A ws.length c], .slice B rs.length d] w (SweepTold ws rs w) := by
  have hx0 : Below w.heap.size w (((w.alloc (.cells #[.slice A ws.length c] 33)).alloc (.cells #[.slice none 0 0] 33)).alloc (.cells #[.int .i64 0, .int .i64 0] 36)) := (((Below.refl _ _).alloc (Nat.le_refl _) _).alloc (by simp) _).alloc (by simp; omega) _
  have hh0 : Blk (((w.alloc (.cells #[.slice A ws.length c] 33)).alloc (.cells #[.slice none 0 0] 33)).alloc (.cells #[.int .i64 0, .int .i64 0] 36)) w.heap.size 33 #[.slice A ws.length c] := ((Blk.new _ _ _).alloc _).alloc _
  have hr1 : Blk (((w.alloc (.cells #[.slice A ws.length c] 33)).alloc (.cells #[.slice none 0 0] 33)).alloc (.cells #[.int .i64 0, .int .i64 0] 36)) (w.heap.size + 1) 33 #[.slice none 0 0] := by
    have := Blk.new (w.alloc (.cells #[.slice A ws.length c] 33)) 33 #[.slice none 0 0]
    exact Blk.alloc (by simpa using this) _
  have hr2 : Blk (((w.alloc (.cells #[.slice A ws.length c] 33)).alloc (.cells #[.slice none 0 0] 33)).alloc (.cells #[.int .i64 0, .int .i64 0] 36)) (w.heap.size + 1 + 1) 36 #[.int .i64 0, .int .i64 0] := by
    have := Blk.new ((w.alloc (.cells #[.slice A ws.length c] 33)).alloc (.cells #[.slice none 0 0] 33)) 36 #[.int .i64 0, .int .i64 0]
    simpa using this
  have HX0 := Lib.hid hx0; have HH0 := Lib.hid hh0; have HR1 := Lib.hid hr1; have HR2 := Lib.hid hr2
  have HA := Lib.hid (hA.below hx0); have HB := Lib.hid (hB.below hx0)
  have HW := Lib.hid hw; have HRW := Lib.hid hr
  clear hx0 hh0 hr1 hr2 hA hB hw hr
  have hmm := @run_makeMap Try.prog
  go_enter Try.func63, Try.ntmps63
  go_wp2_with fail
  generalize hw1 : (((w.alloc (.cells #[.slice A ws.length c] 33)).alloc (.cells #[.slice none 0 0] 33)).alloc (.cells #[.int .i64 0, .int .i64 0] 36)) = w1 at *
  clear hw1
  refine (rsee_any ws rs A B c d w1 HA.out hcap HW.out hl HB.out HRW.out (by omega)).mono ?_
  rintro e w2 ⟨hb2, h⟩
  have HL2 := Lib.hid (HX0.out.trans (hb2.mono HX0.out.size))
  have HH2 := Lib.hid (HH0.out.below hb2 HH0.out.lt)
  have HR12 := Lib.hid (HR1.out.below hb2 HR1.out.lt)
  have HR22 := Lib.hid (HR2.out.below hb2 HR2.out.lt)
  have HA2 := Lib.hid (HA.out.below hb2)
  have HB2 := Lib.hid (HB.out.below hb2)
  have hRlt : w.heap.size + 1 + 1 < w2.heap.size := HR22.out.lt
  clear hb2
  obtain ⟨y1, y2, y3⟩ := HR12.out.f1
  obtain ⟨z1, z2, z3, z4, z5⟩ := HR22.out.f2
  rcases h with ⟨h0, rfl⟩ | ⟨h0, g, rfl, hv⟩
  · have h1 : ((rootsF ws rs).1 != 0) = true := by simpa using h0
    have HN := Lib.hid h0
    clear h0
    unfold seeV fltV
    go_wp2_with fail
    go_region
    all_goals (try go_wp2)
    all_goals
      refine bodyPost_ret (v := .tuple #[.agg #[.slice none 0 0], .slice none 0 0, fltV (rootsF ws rs).1 (rootsF ws rs).2]) (by simp [results, Try.results63, go_sem, fltV, y1, y3, z1, z2, z5]) rfl ⟨[], [], doneOut_err _ ?_, .inl ⟨HN.out, rfl, rfl⟩⟩
      repeat (first | exact HL2.out | refine Below.drew ?_ | refine Below.setCell ?_ (by dsimp only; omega) _ | refine Below.alloc ?_ (by simp; omega) _)
  · obtain ⟨hokh, hokb, _, hfit, hz⟩ := rootsF_zero h0
    have HV := Lib.hid hv
    have HOK := Lib.hid hokh
    have HFIT := Lib.hid hfit
    have HZ := Lib.hid hz
    have hq1 : 2 ≤ ws.length := hokh.two
    have hq2 : ws.length ≤ 2000 := hokh.most
    clear hv hokh hokb hz h0 hfit
    unfold fltV
    go_wp2_with fail
    have hx3 : Below w2.heap.size w2 (w2.alloc (.cells #[.int .i64 0, .int .i64 0] 36)) := (Below.refl _ _).alloc (Nat.le_refl _) _
    have HF3 := Lib.hid (Blk.new w2 36 #[.int .i64 0, .int .i64 0])
    have hs3 : (w2.alloc (.cells #[.int .i64 0, .int .i64 0] 36)).heap.size = w2.heap.size + 1 := by simp
    have HS3 := Lib.hid hs3
    clear hs3
    generalize hw3 : (w2.alloc (.cells #[.int .i64 0, .int .i64 0] 36)) = w3 at *
    clear hw3
    refine (seen_any ws rs g B d w3 (HV.out.below hx3) HOK.out HW.out (HB2.out.below hx3) hrl HFIT.out).mono ?_
    rintro e w4 ⟨M1, n1, S, hSn, hSi, rfl, hM1, hM1g, hb4⟩
    have hb24 := hx3.trans (hb4.mono hx3.size)
    have HL4 := Lib.hid (HL2.out.trans (hb24.mono HL2.out.size))
    have HH4 := Lib.hid (HH2.out.below hb24 HH2.out.lt)
    have HR14 := Lib.hid (HR12.out.below hb24 HR12.out.lt)
    have HR24 := Lib.hid (HR22.out.below hb24 HR22.out.lt)
    have HF4 := Lib.hid (HF3.out.below hb4 HF3.out.lt)
    have HA4 := Lib.hid (HA2.out.below hb24)
    have HB4 := Lib.hid (HB2.out.below hb24)
    have HV4 := Lib.hid (HV.out.below hb24)
    have HM14 := Lib.hid hM1
    have HSN := Lib.hid hSn
    obtain ⟨f, hfS⟩ : ∃ f : Nat → Bool, ∀ p, decide (p ∈ S) = f p := ⟨_, fun _ => rfl⟩
    have HT : Hid (Tells ws rs f) := fun p => by rw [← hfS, decide_eq_true_iff]; exact hSi p
    have hs24 : w2.heap.size + 1 ≤ w4.heap.size := by have := hb4.size; have := HS3.out; omega
    have hhas : ∀ (p : Nat) (W : World), p ≤ 100000 → Below w4.heap.size w4 W → Calls Try.prog 115 #[.map (some M1), .int .i64 p] W fun e w' => e = .returned (.bool (f p)) ∧ Below W.heap.size W w' := fun p W hp hb => by
      rw [← hfS]; exact has_any M1 n1 S p W (HM14.out.below hb HM14.out.lt) hp
    obtain ⟨b, o, c', M', A', oc, v0, v1, v2, hg, hb, hcc, hrow, hord⟩ := HV4.out.cells
    have hvw : ∀ W, Below w4.heap.size w4 W → ViewAt W g ws := fun W hb' => HV4.out.below hb'
    have hvc : ∀ W, Below w4.heap.size w4 W → W.cell? ⟨g, 0, none⟩ = some (.slice (some ⟨b, o, none⟩) ws.length c') ∧ W.cell? ⟨g, 2, none⟩ = some (.slice A' (places ws).length oc) := fun W hb' => ⟨(hb'.cell (p := ⟨g, 0, none⟩) hg).trans v0, (hb'.cell (p := ⟨g, 2, none⟩) hg).trans v2⟩
    have hrw : ∀ W, Below w4.heap.size w4 W → Row W b o ws := fun W hb' => hrow.below hb' hb
    have how : ∀ W, Below w4.heap.size w4 W → Ints W A' (ups (places ws)) := fun W hb' => hord.below hb'
    have hbw : ∀ W, Below w4.heap.size w4 W → Ints W B rs := fun W hb' => HB4.out.below hb'
    have HHAS := Lib.hid hhas; have HVW := Lib.hid hvw; have HVC := Lib.hid hvc; have HROW := Lib.hid hrw; have HOW := Lib.hid how; have HBW := Lib.hid hbw
    have hx5 : Below w4.heap.size w4 ((w4.alloc (.map #[] 0)).alloc (.cells #[.map (some w4.heap.size)] 110)) := ((Below.refl _ _).alloc (Nat.le_refl _) _).alloc (by simp) _
    have HX5 := Lib.hid hx5
    have HM5 : Hid (MapI ((w4.alloc (.map #[] 0)).alloc (.cells #[.map (some w4.heap.size)] 110)) w4.heap.size 0 (movedM ws [])) := by rw [movedM_nil]; exact (MapI.new w4).alloc _
    have hN5 : Blk ((w4.alloc (.map #[] 0)).alloc (.cells #[.map (some w4.heap.size)] 110)) (w4.heap.size + 1) 110 #[.map (some w4.heap.size)] := by
      have := Blk.new (w4.alloc (.map #[] 0)) 110 #[.map (some w4.heap.size)]
      simpa using this
    have HN5 := Lib.hid hN5
    have u2 := (hvc _ hx5).2
    have hps := places_len ws
    have hsub : ∀ k, (∀ q ∈ ((places ws).take k).filter f, q ∈ places ws) ∧ (((places ws).take k).filter f).Nodup := fun k =>
      ⟨fun q hq => List.mem_of_mem_take (List.mem_filter.1 hq).1, ((places_nodup ws).sublist (List.take_sublist _ _)).filter f⟩
    have HSUB := Lib.hid hsub
    clear hb24 hb4 hx3 y1 y2 y3 z1 z2 z3 z4 z5 hM1 hM1g hSn hSi hfS hhas v0 v1 v2 hrow hord hvw hvc hrw how hbw hx5 hN5 hsub
    generalize w2.heap.size = F2 at *
    go_wp2_with fail
    generalize hw5 : ((w4.alloc (.map #[] 0)).alloc (.cells #[.map (some w4.heap.size)] 110)) = w5 at *
    clear hw5 u2
    have hF5 : w4.heap.size + 1 < w5.heap.size := HN5.out.lt
    generalize hF4 : w4.heap.size = F4 at *
    have HF4E := Lib.hid hF4; clear hF4
    go_loopw [11, 43] (fun t i wr => ∃ k n : Nat, i = .int .i64 k ∧ k ≤ (places ws).length ∧ t = .int .i64 (endO ws (((places ws).take k).filter f) 2 : Nat) ∧ Below F4 w4 wr ∧ Blk wr (F4 + 1) 110 #[.map (some F4)] ∧ MapI wr F4 n (movedM ws (((places ws).take k).filter f))) (fun _ i _ => (places ws).length - (intOf i).toNat)
    case atStart => exact ⟨0, 0, rfl, Nat.zero_le _, rfl, HX5.out, HN5.out, HM5.out⟩
    case round =>
      obtain ⟨k, n, rfl, hk, rfl, hbr, hN, hM⟩ := hrel
      have hes := endO_small HOK.out (HSUB.out k).2 (HSUB.out k).1
      have HBR := Lib.hid hbr; have HN := Lib.hid hN; have HM := Lib.hid hM
      have hwF : F4 + 1 < wr.heap.size := hN.lt
      clear hbr hN hM
      by_cases hkl : k < (places ws).length
      · obtain ⟨bo, oo, rfl, hbo, hro⟩ := HOW.out _ HBR.out (by rw [ups_len]; omega)
        have hcell := hro k (by rw [ups_len]; exact hkl)
        rw [ups_nth hkl] at hcell
        have htk : (places ws).take (k + 1) = (places ws).take k ++ [(places ws).getD k 0] := by
          rw [List.take_succ_eq_append_getElem hkl]; simp [List.getD, hkl]
        have hq : (places ws).getD k 0 ∈ places ws := by simp [List.getD, hkl]
        have hpn : (places ws).getD k 0 ∉ ((places ws).take k).filter f := fun hm => by
          have hn := (places_nodup ws).sublist (List.take_sublist (k + 1) (places ws))
          rw [htk] at hn
          exact (List.nodup_append.1 hn).2.2 _ (List.mem_filter.1 hm).1 _ (by simp) rfl
        have hfs := filter_snoc f ((places ws).take k) ((places ws).getD k 0)
        rw [← htk] at hfs
        clear hro htk
        generalize (places ws).getD k 0 = p at *
        have HFS := Lib.hid hfs; have HPN := Lib.hid hpn
        obtain ⟨p2, pl, pb⟩ := places_mem hq
        obtain ⟨m1, m2, m3, m4, m5⟩ := not_bad pb
        have hsn : slotsN ws p = (nth ws (p + 2) / 4).toNat := rfl
        have hszp : szT ws p = 3 + slotsN ws p := rfl
        clear hfs hpn pb
        obtain ⟨n1', n2', n3'⟩ := HN.out.f1
        cases hfp : f p
        · have hE : Hid (((places ws).take (k + 1)).filter f = ((places ws).take k).filter f) := by show _ = _; rw [HFS.out, if_neg (by rw [hfp]; decide)]
          go_wp2_with (go_at_call 115; refine (HHAS.out p _ (by omega) HBR.out).mono ?_; rintro e w6 ⟨rfl, hb6⟩; have HB6 := Lib.hid hb6; clear hb6)
          go_roundw
          case rel => exact ⟨k + 1, n, by go_num, by omega, by rw [hE.out], HBR.out.trans (HB6.out.mono (by omega)), HN.out.below HB6.out HN.out.lt, by rw [hE.out]; exact HM.out.below HB6.out HM.out.lt⟩
          case measure => simp [intOf]; omega
        · have hE : Hid (((places ws).take (k + 1)).filter f = ((places ws).take k).filter f ++ [p]) := by show _ = _; rw [HFS.out, if_pos hfp]
          go_wp2_with (first
            | (go_at_call 115; refine (HHAS.out p _ (by omega) HBR.out).mono ?_; rintro e w6 ⟨rfl, hb6⟩; have hB6 := HBR.out.trans (hb6.mono (by omega)); have HB6 := Lib.hid hB6; have hN6 := HN.out.below hb6 HN.out.lt; have HN6 := Lib.hid hN6; have HM6 := Lib.hid (HM.out.below hb6 HM.out.lt); obtain ⟨n1'', n2'', n3''⟩ := hN6.f1; clear hb6 hB6 hN6)
            | (at_mapUpdate; refine wpList_store rfl _ _ _ 110 3 rfl Try.underlying110 HM6.out rfl (p : Int) rfl (.int .i64 (endO ws (((places ws).take k).filter f) 2 : Nat)) rfl (by omega) (by omega) ?_; intro w7 hm7 hgr7; rw [movedM_push ws HPN.out, ← hE.out] at hm7; have HM7 := Lib.hid hm7; have hb7 := HB6.out.grown hgr7 (by omega) (fun q hq => by cases hq; exact Nat.le_refl _); have HB7 := Lib.hid hb7; have HN7 := Lib.hid (HN6.out.grown hgr7 (by simp)); clear hm7 hgr7 hb7)
            | (go_at_call 116; refine (endv_any (HVW.out _ HB7.out) HW.out (by omega) p (by omega)).mono ?_; rintro e w' ⟨rfl, rfl⟩))
          go_roundw
          case rel => exact ⟨k + 1, n + 1, by go_num, by omega, by rw [hE.out, endO_snoc, hszp]; go_num, HB7.out, HN7.out, HM7.out⟩
          case measure => simp [intOf]; omega
      · obtain rfl : k = (places ws).length := by omega
        rw [List.take_length] at HM hes ⊢
        have HORD := Lib.hid (sweep_ord HOK.out HFIT.out HT.out)
        have HBND := Lib.hid (toO_small HOK.out HORD.out.nodup (fun p hp => (List.mem_filter.1 hp).1))
        generalize hordG : (places ws).filter f = ORD at *
        have HORDG := Lib.hid hordG; clear hordG
        have hsn := fun (x : Int) (W : World) (hx : fitsB ws x = true) (hN : Blk W (F4 + 1) 110 #[.map (some F4)]) (hM : MapI W F4 n (movedM ws ORD)) => snow_any ws ws ORD HBND.out (F4 + 1) F4 n x W hN hM hx
        generalize hhh : nowO (toO ws ORD) = h at *
        have HHH := Lib.hid hhh; clear hhh
        obtain ⟨wo, rfl⟩ : ∃ x, x = wr := ⟨_, rfl⟩
        have hnow : ∀ (x : Int) (W : World), fitsB ws x = true → Below wo.heap.size wo W → Calls Try.prog 117 #[.int .i64 x, .pointer (some ⟨F4 + 1, 0, none⟩)] W fun e w' => e = .returned (.int .i64 (h x)) ∧ W = w' := fun x W hx hb => hsn x W hx (HN.out.below hb HN.out.lt) (HM.out.below hb HM.out.lt)
        have HNOW := Lib.hid hnow
        have hboW : ∀ W, Below wo.heap.size wo W → Below F4 w4 W := fun W hb => HBR.out.trans (hb.mono (by omega))
        have HBO := Lib.hid hboW
        have hHwo : Blk wo w.heap.size 33 #[.slice A ws.length c] := HH4.out.below (by rw [HF4E.out]; exact HBR.out) HH4.out.lt
        have HHwo := Lib.hid hHwo
        obtain ⟨x1, x2, x3⟩ := hHwo.f1
        obtain ⟨b0, o0, rfl, hb0, hro0⟩ := (HA4.out.below (show Below w4.heap.size w4 wo by rw [HF4E.out]; exact HBR.out)) (by omega)
        have HRO0 := Lib.hid hro0
        clear hsn hnow hboW hHwo hro0
        have hj2 : ∀ W, Below wo.heap.size wo W → ∀ j, j < [nth ws 0, nth ws 1].length → W.cell? ⟨b0, o0 + j, none⟩ = some (.int .i64 (nth [nth ws 0, nth ws 1] j)) := fun W hb j hj => by
          have hj' : j < 2 := hj
          rw [(hb.cell (p := ⟨b0, o0 + j, none⟩) hb0).trans (HRO0.out j (by omega))]
          have hc : j = 0 ∨ j = 1 := by omega
          rcases hc with rfl | rfl <;> rfl
        have hoe : endO ws ORD 2 ≤ 1000000000 := by omega
        have hl2 : ([] : List Int).length + [nth ws 0, nth ws 1].length ≤ 1000000000 := by simp
        have t1 : (2 : Int) ≤ (c : Int) := by omega
        have t2 : ¬ c < 2 := by omega
        have t3 : 2 ≤ c := by omega
        go_wp2_with fail
        obtain ⟨w7, hrun7, hown7, hgr7⟩ := run_makeN wo.drew wo.heap.size (endO ws ORD 2) hoe (Nat.le_refl _)
        have hb7 : Below wo.heap.size wo w7 := (Below.refl _ _).drew.grown hgr7 (Nat.le_refl _) (fun q hq => nomatch hq)
        have hS1 : w7.cell? ⟨w.heap.size, 0, none⟩ = some (.slice (some ⟨b0, o0, none⟩) ws.length c) := (hb7.cell (p := ⟨w.heap.size, 0, none⟩) x3).trans x1
        have hS0 : (wo.drew).cell? ⟨w.heap.size, 0, none⟩ = some (.slice (some ⟨b0, o0, none⟩) ws.length c) := x1
        go_region_held3 (fun w' => w'.cell? ⟨w.heap.size, 0, none⟩ = some (.slice (some ⟨b0, o0, none⟩) ws.length c))
          (first | exact hS0 | exact hS1 | exact hS2 | go_keep)
          (first
            | (refine step_joinN rfl _ _ rfl wo.heap.size (.slice (some ⟨_, 0, none⟩) 0 _) [] rfl hown7 (some ⟨b0, o0, none⟩) _ [nth ws 0, nth ws 1] rfl (fun _ => ⟨b0, o0, rfl, Nat.lt_of_lt_of_le hb0 hb7.size, fun j hj => hj2 _ hb7 j hj⟩) hl2 hb7.size ?_; intro A8 n8 c8 w8 hown8 hgr8; have hb8 : Below wo.heap.size wo w8 := hb7.grown hgr8 hb7.size (fun q hq => (hown7.lt q hq).1); have hS2 : w8.cell? ⟨w.heap.size, 0, none⟩ = some (.slice (some ⟨b0, o0, none⟩) ws.length c) := (hb8.cell (p := ⟨w.heap.size, 0, none⟩) x3).trans x1))
        clear hS0 hS1 hS2 hrun7 hown7 hgr7 hb7 t1 t2 t3 hj2 x1 x2 x3 hl2
        have HO8 := Lib.hid hown8; have HB8 := Lib.hid hb8
        clear hown8 hgr8 hb8
        have u2 := (HVC.out _ (HBO.out _ HB8.out)).2
        generalize hF : wo.heap.size = F at *
        have HFE := Lib.hid hF; clear hF
        go_wp2_with fail
        clear u2
        go_loopw [15, 73] (fun v i wr => ∃ k : Nat, i = .int .i64 k ∧ k ≤ (places ws).length ∧ Below F wo wr ∧ Own wr F v (laidO h ws (((places ws).take k).filter f))) (fun _ i _ => (places ws).length - (intOf i).toNat)
        case atStart => exact ⟨0, rfl, Nat.zero_le _, HB8.out, HO8.out⟩
        case round =>
          obtain ⟨k, rfl, hk, hbr, hown⟩ := hrel
          have hwF : F ≤ wr.heap.size := by have := hbr.size; have := HFE.out; omega
          have hbr4 := HBO.out _ hbr
          have HBR := Lib.hid hbr; have HO := Lib.hid hown; have HBR4 := Lib.hid hbr4
          clear hbr hown hbr4
          by_cases hkl : k < (places ws).length
          · obtain ⟨bo, oo, rfl, hbo, hro⟩ := HOW.out _ HBR4.out (by rw [ups_len]; omega)
            have hcell := hro k (by rw [ups_len]; exact hkl)
            rw [ups_nth hkl] at hcell
            have htk : (places ws).take (k + 1) = (places ws).take k ++ [(places ws).getD k 0] := by
              rw [List.take_succ_eq_append_getElem hkl]; simp [List.getD, hkl]
            have hq : (places ws).getD k 0 ∈ places ws := by simp [List.getD, hkl]
            have hfs := filter_snoc f ((places ws).take k) ((places ws).getD k 0)
            have hll : (laidO h ws (((places ws).take k).filter f)).length ≤ 2000 := by
              rw [laid_len (fun q hq => (places_mem ((HSUB.out k).1 q hq)).2.2)]
              exact endO_small HOK.out (HSUB.out k).2 (HSUB.out k).1
            rw [← htk] at hfs
            clear hro htk
            generalize (places ws).getD k 0 = p at *
            have HFS := Lib.hid hfs
            obtain ⟨p2, pl, pb⟩ := places_mem hq
            obtain ⟨m1, m2, m3, m4, m5⟩ := not_bad pb
            have hsb : p + 3 + slotsN ws p ≤ ws.length := by have : slotsN ws p = (nth ws (p + 2) / 4).toNat := rfl; omega
            have HBAD := Lib.hid pb
            have HPM := Lib.hid hq
            have HCF := Lib.hid (class_fits HOK.out hq)
            clear hfs pb hq
            cases hfp : f p
            · have hE : Hid (((places ws).take (k + 1)).filter f = ((places ws).take k).filter f) := by show _ = _; rw [HFS.out, if_neg (by rw [hfp]; decide)]
              go_wp2_with (go_at_call 115; refine (HHAS.out p _ (by omega) HBR4.out).mono ?_; rintro e w6 ⟨rfl, hb6⟩; have HB6 := Lib.hid hb6; clear hb6)
              go_roundw
              case rel => exact ⟨k + 1, by go_num, by omega, HBR.out.trans (HB6.out.mono hwF), by rw [hE.out]; exact HO.out.below HB6.out (fun q hq => (HO.out.lt q hq).2)⟩
              case measure => simp [intOf]; omega
            · have hE : Hid (laidO h ws (((places ws).take (k + 1)).filter f) = laidO h ws (((places ws).take k).filter f) ++ ([h (nth ws p), nth ws (p + 1), nth ws (p + 2)] ++ slotsO h ws p)) := by show _ = _; rw [HFS.out, if_pos hfp, laidO_snoc, thingO_eq]
              generalize laidO h ws (((places ws).take k).filter f) = X at *
              go_wp2_with (go_at_call 115; refine (HHAS.out p _ (by omega) HBR4.out).mono ?_; rintro e w6 ⟨rfl, hb6⟩; have hB6 := HBR.out.trans (hb6.mono hwF); have HB6 := Lib.hid hB6; have HO6 := Lib.hid (HO.out.below hb6 (fun q hq => (HO.out.lt q hq).2)); have hw6F : F ≤ w6.heap.size := Nat.le_trans hwF hb6.size; clear hb6 hB6)
              obtain ⟨AX, nX, cX, rfl, -⟩ := HO6.out.form3
              have hbo6 := HBO.out _ HB6.out
              have x1 := (HVC.out _ hbo6).1
              have hR := HROW.out _ hbo6
              have e1 : IntKind.i64.wrap ((p : Int) + 1) = (p : Int) + 1 := IntWalk.i64_in _ (by omega)
              have e2 : IntKind.i64.wrap ((p : Int) + 2) = (p : Int) + 2 := IntWalk.i64_in _ (by omega)
              have e3 : ((p : Int) + 1).toNat = p + 1 := by omega
              have e4 : ((p : Int) + 2).toNat = p + 2 := by omega
              have e5 : (p : Int) + 1 < (ws.length : Int) := by omega
              have e6 : (p : Int) + 2 < (ws.length : Int) := by omega
              have e7 : 0 ≤ (p : Int) + 1 := by omega
              have e8 : 0 ≤ (p : Int) + 2 := by omega
              have e9 : (p : Int) < (ws.length : Int) := by omega
              have e10 : 0 ≤ (p : Int) := by omega
              have hl9 : X.length + 3 ≤ 1000000000 := by omega
              have hSC : ∀ W, Below F wo W → (W.cell? ⟨g, 0, none⟩ = some (.slice (some ⟨b, o, none⟩) ws.length c') ∧ W.cell? ⟨b, o + p, none⟩ = some (.int .i64 (nth ws p)) ∧ W.cell? ⟨b, o + (p + 1), none⟩ = some (.int .i64 (nth ws (p + 1))) ∧ W.cell? ⟨b, o + (p + 2), none⟩ = some (.int .i64 (nth ws (p + 2)))) := fun W hb =>
                ⟨(HVC.out _ (HBO.out _ hb)).1, HROW.out _ (HBO.out _ hb) p (by omega), HROW.out _ (HBO.out _ hb) (p + 1) (by omega), HROW.out _ (HBO.out _ hb) (p + 2) (by omega)⟩
              have hS0 := hSC (w6.drew) (HB6.out.drew)
              have hO9 : Own ((w6.alloc (.cells #[.int .i64 (h (nth ws p)), .int .i64 (nth ws (p + 1)), .int .i64 (nth ws (p + 2))] 3)).drew) F (.slice AX nX cX) X := HO6.out.alloc _
              have hJ9 : Ints ((w6.alloc (.cells #[.int .i64 (h (nth ws p)), .int .i64 (nth ws (p + 1)), .int .i64 (nth ws (p + 2))] 3)).drew) (some ⟨w6.heap.size, 0, none⟩) [h (nth ws p), nth ws (p + 1), nth ws (p + 2)] := ints_new w6 _
              have hbs : Below F wo ((w6.alloc (.cells #[.int .i64 (h (nth ws p)), .int .i64 (nth ws (p + 1)), .int .i64 (nth ws (p + 2))] 3)).drew) := (HB6.out.alloc hw6F _).drew
              have hz9 : F ≤ ((w6.alloc (.cells #[.int .i64 (h (nth ws p)), .int .i64 (nth ws (p + 1)), .int .i64 (nth ws (p + 2))] 3)).drew).heap.size := by simp; omega
              have hS1 := hSC _ hbs
              have hbd6 : Below F wo w6.drew := HB6.out.drew
              have HO9 := Lib.hid hO9; have HJ9 := Lib.hid hJ9; have HBS := Lib.hid hbs; have HSC := Lib.hid hSC; have HBD6 := Lib.hid hbd6
              clear hO9 hJ9 hbs hSC hR x1 hbo6 hbd6
              go_region_held3 (fun w' => w'.cell? ⟨g, 0, none⟩ = some (.slice (some ⟨b, o, none⟩) ws.length c') ∧ w'.cell? ⟨b, o + p, none⟩ = some (.int .i64 (nth ws p)) ∧ w'.cell? ⟨b, o + (p + 1), none⟩ = some (.int .i64 (nth ws (p + 1))) ∧ w'.cell? ⟨b, o + (p + 2), none⟩ = some (.int .i64 (nth ws (p + 2))))
                (first | exact hS0 | exact hS1 | exact hS3)
                (first
                  | (go_at_call 117; refine (HNOW.out _ _ HCF.out HBD6.out).mono ?_; rintro e w' ⟨rfl, rfl⟩)
                  | (refine step_joinN rfl _ _ rfl F (.slice AX nX cX) X rfl HO9.out (some ⟨_, 0, none⟩) 3 [h (nth ws p), nth ws (p + 1), nth ws (p + 2)] rfl HJ9.out hl9 hz9 ?_; intro A3 n3 c3 w9 hown3 hgr3; have hb3 : Below F wo w9 := HBS.out.grown hgr3 hz9 (fun q hq => (HO9.out.lt q hq).1); have hS3 := HSC.out _ hb3))
              clear e1 e2 e3 e4 e5 e6 e7 e8 e9 e10 hS0 hS1 hS3 HO9 HJ9 HBS
              have HO3' := Lib.hid hown3; have HB3' := Lib.hid hb3
              have hsz3 : F ≤ w9.heap.size := Nat.le_trans hz9 hgr3.size
              have HBO3 := Lib.hid (HBO.out _ hb3)
              clear hown3 hgr3 hb3 hz9 HBR HO HO6 HB6 HBR4
              go_wp2_with fail
              have hslA := slots_any ws g b o c' p w9 (HVC.out _ HBO3.out).1 (HROW.out _ HBO3.out) HW.out (by omega) HBAD.out hcc
              refine hslA.mono ?_
              rintro e w10 ⟨rfl, m9, rfl⟩
              clear hslA
              have hAW : ∀ W, Below F4 w4 W → Ints W (slotsA b o c' p) (slotsL ws p) := fun W hb9 => ints_slots (HROW.out _ hb9) (by have := hb9.size; have := HF4E.out; omega) HBAD.out hcc
              have HAW := Lib.hid hAW
              clear hAW
              generalize slotsA b o c' p = A9 at *
              have HO10 := Lib.hid (HO3'.out.drewN m9)
              have HB10 := Lib.hid (HB3'.out.trans (belowN _ _ m9))
              have hsz10 : F ≤ (w9.drewN m9).heap.size := hsz3
              clear HO3' HB3' HBO3
              generalize w9.drewN m9 = w11 at *
              have hsl : (slotsO h ws p).length = slotsN ws p := slotsO_len HBAD.out
              have hsl2 : (slotsL ws p).length = slotsN ws p := slotsL_len HBAD.out
              have HSL := Lib.hid hsl; have HSL2 := Lib.hid hsl2
              clear hsl hsl2
              go_wp2_with fail
              go_loopw [15, 113] (fun v i u => ∃ k : Nat, i = .int .i64 k ∧ k ≤ slotsN ws p ∧ Below F wo u ∧ Own u F v (X ++ ([h (nth ws p), nth ws (p + 1), nth ws (p + 2)] ++ (slotsO h ws p).take k))) (fun _ i _ => slotsN ws p - (intOf i).toNat)
              case atStart => exact ⟨0, rfl, Nat.zero_le _, HB10.out, HO10.out⟩
              case round =>
                obtain ⟨j, rfl, hj, hbr, hown⟩ := hrel
                have hFu : F ≤ wr.heap.size := by have := hbr.size; have := HFE.out; omega
                have hbo := HBO.out _ hbr
                have HBR := Lib.hid hbr; have HO := Lib.hid hown; have HBO' := Lib.hid hbo
                clear hbr hown hbo
                by_cases hks : j < slotsN ws p
                · obtain ⟨b9, o9, rfl, _, hr9⟩ := HAW.out _ HBO'.out (by have := HSL2.out; omega)
                  have hrk := hr9 j (by have := HSL2.out; omega)
                  rw [slotsL_nth HBAD.out hks] at hrk
                  have hTK := Lib.hid (take_slot (xs := slotsO h ws p) (k := j) (by have := HSL.out; omega))
                  have hNS := Lib.hid (slotsO_nth (h := h) HBAD.out hks)
                  have hly : (X ++ ([h (nth ws p), nth ws (p + 1), nth ws (p + 2)] ++ (slotsO h ws p).take j)).length ≤ 1000000000 := by
                    have := HSL.out
                    simp only [List.length_append, List.length_take, List.length_cons, List.length_nil]; omega
                  obtain ⟨t1, t2⟩ := HW.out (p + 3 + j)
                  clear hr9
                  cases hf1 : (formOf ws p != 1)
                  · have hE2 : Hid (nth (slotsO h ws p) j = nth ws (p + 3 + j)) := by show _ = _; rw [hNS.out, if_pos (by simpa using hf1)]
                    have hz6 : F ≤ (wr.alloc (.cells #[.int .i64 (nth ws (p + 3 + j))] 3)).heap.size := by rw [World.size_alloc]; omega
                    go_wp2_with (first
                      | (go_at_call 97; refine (formv_any (HVW.out _ HBO'.out) HW.out (by omega) p (by omega)).mono ?_; rintro e w' ⟨rfl, rfl⟩)
                      | (at_builtin; refine wpList_pushN rfl _ _ rfl F _ _ rfl (HO.out.alloc _) wr.heap.size 1 (nth ws (p + 3 + j)) rfl (cell_new wr _ _ _ 0) hly hz6 ?_; intro g6 n6 cap6 w6' hown6 hg6 hgr6; have HO6 := Lib.hid hown6; have HB6 := Lib.hid ((HBR.out.alloc hFu _).grown hgr6 hz6 (fun q hq => (HO.out.lt q hq).1)); clear hown6 hgr6))
                    go_roundw
                    case rel => exact ⟨j + 1, by go_num, by omega, HB6.out, by rw [hTK.out, hE2.out]; have h8 := HO6.out; simp only [List.append_assoc] at h8 ⊢; exact h8⟩
                    case measure => simp [intOf]; omega
                  · have hf1' : formOf ws p ≠ 1 := by simpa using hf1
                    have hE2 : Hid (nth (slotsO h ws p) j = h (nth ws (p + 3 + j))) := by show _ = _; rw [hNS.out, if_neg hf1']
                    have HCF2 := Lib.hid (slot_fits HOK.out HPM.out hf1' hks)
                    clear hf1'
                    have hz6 : F ≤ (wr.alloc (.cells #[.int .i64 (h (nth ws (p + 3 + j)))] 3)).heap.size := by rw [World.size_alloc]; omega
                    go_wp2_with (first
                      | (go_at_call 97; refine (formv_any (HVW.out _ HBO'.out) HW.out (by omega) p (by omega)).mono ?_; rintro e w' ⟨rfl, rfl⟩)
                      | (go_at_call 117; refine (HNOW.out _ _ HCF2.out HBR.out).mono ?_; rintro e w' ⟨rfl, rfl⟩)
                      | (at_builtin; refine wpList_pushN rfl _ _ rfl F _ _ rfl (HO.out.alloc _) wr.heap.size 1 (h (nth ws (p + 3 + j))) rfl (cell_new wr _ _ _ 0) hly hz6 ?_; intro g6 n6 cap6 w6' hown6 hg6 hgr6; have HO6 := Lib.hid hown6; have HB6 := Lib.hid ((HBR.out.alloc hFu _).grown hgr6 hz6 (fun q hq => (HO.out.lt q hq).1)); clear hown6 hgr6))
                    go_roundw
                    case rel => exact ⟨j + 1, by go_num, by omega, HB6.out, by rw [hTK.out, hE2.out]; have h8 := HO6.out; simp only [List.append_assoc] at h8 ⊢; exact h8⟩
                    case measure => simp [intOf]; omega
                · obtain rfl : j = slotsN ws p := by omega
                  have hOE := HO.out
                  rw [show (slotsO h ws p).take (slotsN ws p) = slotsO h ws p from by rw [← HSL.out, List.take_length], ← hE.out] at hOE
                  have HOE := Lib.hid hOE
                  clear hOE
                  go_wp2_with fail
                  go_roundw
                  case rel => exact ⟨k + 1, by go_num, by omega, HBR.out, HOE.out⟩
                  case measure => simp [intOf]; omega
          · obtain rfl : k = (places ws).length := by omega
            have hOL := HO.out
            rw [List.take_length, HORDG.out] at hOL
            have HOL := Lib.hid hOL
            have HBIN := Lib.hid (HBW.out _ HBR4.out)
            obtain ⟨wl, rfl⟩ : ∃ x, x = wr := ⟨_, rfl⟩
            have HBL := HBR
            clear HO HBR hOL HBR4
            obtain ⟨AX, nX, cX, rfl, hnX, -, -⟩ := HOL.out.form3
            have HNX := Lib.hid hnX
            clear hnX
            go_wp2_with fail
            go_loopw [20, 132] (fun v i u => ∃ j : Nat, i = .int .i64 j ∧ j ≤ rs.length ∧ Below wl.heap.size wl u ∧ Own u wl.heap.size v ((rs.take j).map h)) (fun _ i _ => rs.length - (intOf i).toNat)
            case atStart => exact ⟨0, rfl, Nat.zero_le _, Below.refl _ _, Own.nil _ _⟩
            case round =>
              obtain ⟨j, rfl, hj, hb5, hown5⟩ := hrel
              have HB5 := Lib.hid hb5; have HO5 := Lib.hid hown5
              have hws : wl.heap.size ≤ wr.heap.size := hb5.size
              have hbr5 : Below F wo wr := HBL.out.trans (hb5.mono hwF)
              have HBR5 := Lib.hid hbr5
              clear hb5 hown5 hbr5
              by_cases hjl : j < rs.length
              · obtain ⟨b', o', rfl, hb', hrow'⟩ := HBIN.out (by omega)
                have hcell := (hrow'.below HB5.out hb') j hjl
                have HFJ := Lib.hid (HFIT.out (nth rs j) (by rw [nth_eq hjl]; exact List.getElem_mem _))
                clear hrow'
                have hly : ((rs.take j).map h).length ≤ 1000000000 := by simp; omega
                have hz6 : wl.heap.size ≤ (wr.alloc (.cells #[.int .i64 (h (nth rs j))] 3)).heap.size := by rw [World.size_alloc]; omega
                go_wp2_with (first
                  | (go_at_call 117; refine (HNOW.out _ _ HFJ.out HBR5.out).mono ?_; rintro e w' ⟨rfl, rfl⟩)
                  | (at_builtin; refine wpList_pushN rfl _ _ rfl wl.heap.size _ ((rs.take j).map h) rfl (HO5.out.alloc _) wr.heap.size 1 (h (nth rs j)) rfl (cell_new wr _ _ _ 0) hly hz6 ?_; intro g6 n6 cap6 w6 hown6 hg6 hgr6; have HO6 := Lib.hid hown6; have HB6 := Lib.hid ((HB5.out.alloc hws _).grown hgr6 hz6 (fun q hq => (HO5.out.lt q hq).1)); clear hown6 hgr6))
                go_roundw
                case rel =>
                  refine ⟨j + 1, by go_num, by omega, HB6.out, ?_⟩
                  have h8 := HO6.out
                  rw [List.take_succ_eq_append_getElem hjl, List.map_append, List.map_singleton, ← nth_eq hjl]
                  exact h8
                case measure => simp [intOf]; omega
              · obtain rfl : j = rs.length := by omega
                have hb45 : Below w4.heap.size w4 wr := by rw [HF4E.out]; exact HBO.out _ HBR5.out
                obtain ⟨y1, y2, y3⟩ := (HR14.out.below hb45 HR14.out.lt).f1
                obtain ⟨z1, z2, z3, z4, z5⟩ := (HR24.out.below hb45 HR24.out.lt).f2
                obtain ⟨t1, t2, t3, t4, t5⟩ := (HF4.out.below hb45 HF4.out.lt).f2
                have HL5 := Lib.hid (HL4.out.trans (hb45.mono HL4.out.size))
                have hO5 := HO5.out
                rw [List.take_length] at hO5
                obtain ⟨A5, n5, c5, rfl, hn5, -, -⟩ := hO5.form3
                have HO5' := Lib.hid hO5
                have HN5' := Lib.hid hn5
                have HOL5 := Lib.hid (HOL.out.below HB5.out (fun q hq => (HOL.out.lt q hq).2))
                have hl2 : F2 + 1 ≤ F := by have := HBR.out.size; omega
                clear hb45 hO5 hn5
                go_wp2_with fail
                go_region
                all_goals (try go_wp2)
                all_goals
                  refine bodyPost_ret (v := .tuple #[.agg #[.slice AX nX cX], .slice A5 n5 c5, fltV 0 0]) (by simp [results, Try.results63, go_sem, fltV, y1, z1, z2]) rfl ⟨laidO h ws ORD, rs.map h, ?_, .inr ⟨by rw [HZ.out], f, HT.out, by rw [HORDG.out]; unfold arrW; rw [HHH.out], by rw [HORDG.out]; unfold arrR; rw [HHH.out]⟩⟩
                  rw [HZ.out, HNX.out, HN5'.out]
                  have hoX := HOL5.out
                  have ho5 := HO5'.out
                  rw [HNX.out] at hoX
                  rw [HN5'.out] at ho5
                  refine ⟨?_, AX, cX, A5, c5, rfl, ?_, ?_⟩
                  · repeat (first | exact HL5.out | refine Below.drew ?_ | refine Below.setCell ?_ (by dsimp only; omega) _ | refine Below.alloc ?_ (by simp; omega) _)
                  · repeat (first | exact hoX.mono (by omega) | refine Own.setCell ?_ _ (fun e => by have := (hoX.lt _ e).1; dsimp only at this; omega) _ | refine Own.alloc ?_ _ | refine Own.drewN ?_ 1)
                  · repeat (first | exact ho5.mono (by omega) | refine Own.setCell ?_ _ (fun e => by have := (ho5.lt _ e).1; dsimp only at this; omega) _ | refine Own.alloc ?_ _ | refine Own.drewN ?_ 1)
end
end Go.Proofs.Ytjpppdacamhhfaa
