/- The document's Counts: how often each thing is held, in order. Conditions: a heap that may be, roots that fit. -/
import Derived.Test.YtjpppdacamhhfaaCountF
import Derived.StillTailTactics
namespace Go.Proofs.Ytjpppdacamhhfaa
open Go.RowKit
set_option linter.unusedVariables false

theorem cntRow_nil (N : Nat) : cntRow [] N = List.replicate N 0 := by
  apply list_ext_nth
  · rw [cntRow_len]; simp
  · intro j hj
    rw [cntRow_len] at hj
    rw [cntRow_nth hj]
    simp [cntF, nth, hj]
def RCountsOut (ws rs : List Int) (w : World) (e : Ending) (w' : World) : Prop :=
  ∃ A c, e = .returned (.slice A (cntL ws rs).length c) ∧ Own w' w.heap.size (.slice A (cntL ws rs).length c) (cntL ws rs) ∧ Below w.heap.size w w'
theorem all_le {ws rs : List Int} {pre l : List Nat} (hok : OkH ws) (h : places ws = pre ++ l) (hrl : rs.length ≤ 1000000) : (rs ++ pre.flatMap (holdsL ws)).length ≤ 50000000 := by
  have h1 := flat_le (f := holdsL ws) (c := 2001) pre (fun p hp => holds_le hok (by rw [h]; exact List.mem_append_left _ hp))
  have h2 : pre.length ≤ 2000 := by
    have h3 := places_len ws
    rw [h, List.length_append] at h3
    have := hok.most
    omega
  rw [List.length_append]; omega

set_option maxRecDepth 100000 in
set_option maxHeartbeats 4000000 in
theorem rcounts_any (ws rs : List Int) (b o c : Nat) (B : Option Addr) (d : Nat) (w : World) (hr : Row w b o ws) (hlt : b < w.heap.size) (hok : OkH ws) (hw : I64 ws)
    (hB : Ints w B rs) (hri : I64 rs) (hrl : rs.length ≤ 1000000) (hfit : ∀ o ∈ rs, fitsB ws o = true) :
    Calls Try.prog 61 #[.agg #[.slice (some ⟨b, o, none⟩) ws.length c], .slice B rs.length d] w (RCountsOut ws rs w) := by
  have hx0 : Below w.heap.size w (w.alloc (.cells #[.slice (some ⟨b, o, none⟩) ws.length c] 33)) := (Below.refl _ _).alloc (Nat.le_refl _) _
  have hh0 : Blk (w.alloc (.cells #[.slice (some ⟨b, o, none⟩) ws.length c] 33)) w.heap.size 33 #[.slice (some ⟨b, o, none⟩) ws.length c] := Blk.new _ _ _
  obtain ⟨q1, q2⟩ : 2 ≤ ws.length ∧ ws.length ≤ 2000 := ⟨hok.two, hok.most⟩
  have HR := Lib.hid (hr.below hx0 hlt); have HX0 := Lib.hid hx0; have HH0 := Lib.hid hh0
  have HB := Lib.hid (hB.below hx0)
  have HW := Lib.hid hw; have HOK := Lib.hid hok; have HRI := Lib.hid hri; have HFIT := Lib.hid hfit
  clear hr hx0 hh0 hB hw hok hri hfit
  have hsz : Hid (w.heap.size + 1 = (w.alloc (.cells #[.slice (some ⟨b, o, none⟩) ws.length c] 33)).heap.size) := by show _ = _; simp
  obtain ⟨x1, x2, x3⟩ := HH0.out.f1
  generalize hw1 : (w.alloc (.cells #[.slice (some ⟨b, o, none⟩) ws.length c] 33)) = w1 at HR HX0 HB hsz
  have HW1 := Lib.hid hw1; clear hw1 HH0
  have e9 : IntKind.i64.wrap ((ws.length : Int) + 1) = ((ws.length + 1 : Nat) : Int) := IntWalk.i64_in _ (by omega)
  go_enter Try.func61, Try.ntmps61
  go_wp2_with (at_make; rw [HW1.out]; refine wpList_zeros rfl _ _ rfl w1.heap.size (ws.length + 1) rfl rfl (by omega) (Nat.le_refl _) ?_; intro w3 hown3 hgr3; have HO3 := Lib.hid hown3; have HG3 := Lib.hid hgr3; clear hown3 hgr3)
  clear x1 x2 x3 HW1 e9
  have hbl : b < w1.heap.size := by have := hsz.out; omega
  have hb13 : Below w1.heap.size w1 w3 := (Below.refl _ _).grown HG3.out (Nat.le_refl _) (fun q hq => by cases hq)
  rw [← cntRow_nil (ws.length + 1)] at HO3
  have hsz3 : w1.heap.size ≤ w3.heap.size := hb13.size
  have HB13 := Lib.hid hb13
  clear hb13 HG3
  have hrowW : ∀ W, Below w1.heap.size w1 W → Row W b o ws := fun W hb => HR.out.below hb hbl
  have hBW : ∀ W, Below w1.heap.size w1 W → Ints W B rs := fun W hb => HB.out.below hb
  have HROW := Lib.hid hrowW; have HBW := Lib.hid hBW
  clear hrowW hBW HR HB
  generalize hN : ws.length + 1 = N at *
  have hNw : ws.length ≤ N := by omega
  have HNE := Lib.hid hN
  clear hN
  generalize hF : w1.heap.size = F at *
  have HFE := Lib.hid hF; clear hF
  go_loopw [7] (fun i wr => ∃ j : Nat, i = .int .i64 j ∧ j ≤ rs.length ∧ Own wr F (.slice (some ⟨F, 0, none⟩) N N) (cntRow (rs.take j) N) ∧ Below F w1 wr) (fun i _ => rs.length - (intOf i).toNat)
  case atStart => exact ⟨0, rfl, Nat.zero_le _, by rw [List.take_zero]; exact HO3.out, HB13.out⟩
  case round =>
    obtain ⟨j, rfl, hj, hown, hbw⟩ := hrel
    have HO := Lib.hid hown; have HBR := Lib.hid hbw
    clear hown hbw
    by_cases hjl : j < rs.length
    · obtain ⟨b', o', rfl, hb', hrow'⟩ := HBW.out _ HBR.out (by omega)
      have hcell := hrow' j hjl
      have hfj := HFIT.out (nth rs j) (by rw [nth_eq hjl]; exact List.getElem_mem _)
      have HFJ := Lib.hid hfj
      have hTK := Lib.hid (take_slot hjl)
      have hll : (rs.take j).length ≤ 100000000 := by rw [List.length_take]; omega
      have HLL := Lib.hid hll
      clear hrow' hfj hll
      go_wp2_with fail
      refine (one_more_any ws F F N N (rs.take j) (nth rs j) wr HO.out HFJ.out hNw HLL.out).mono ?_
      rintro e w6 ⟨rfl, ho6, ht6⟩
      have hb6 := HBR.out.trans (ht6.below (B := F) (Nat.le_of_lt (HO.out.lt _ rfl).2) (fun k hk e => by subst e; exact absurd hk (Nat.lt_irrefl _)))
      have HO6 := Lib.hid ho6; have HB6 := Lib.hid hb6
      clear ho6 ht6 hb6
      go_wp2_with fail
      go_roundw
      case rel => exact ⟨j + 1, by go_num, by omega, by rw [hTK.out]; exact HO6.out, HB6.out⟩
      case measure => simp [intOf]; omega
    · obtain rfl : j = rs.length := by omega
      rw [List.take_length] at HO
      go_wp2_with fail
      go_loopw [8] (fun i wr => ∃ (p : Nat) (pre : List Nat), i = .int .i64 p ∧ 2 ≤ p ∧ p ≤ 200000 ∧ badFrom ws p = none ∧ places ws = pre ++ plFrom ws p ∧ Own wr F (.slice (some ⟨F, 0, none⟩) N N) (cntRow (rs ++ pre.flatMap (holdsL ws)) N) ∧ Below F w1 wr) (fun i _ => ws.length - (intOf i).toNat)
      case atStart => exact ⟨2, [], rfl, by omega, by omega, HOK.out.bad, places_eq ws, by rw [List.flatMap_nil, List.append_nil]; exact HO.out, HBR.out⟩
      case round =>
        clear HO HBR HO3 HB13
        obtain ⟨p, pre, rfl, hp2, hp4, hbd, hpl, hown, hbr⟩ := hrel
        have hR := HROW.out _ hbr
        have hll := all_le HOK.out hpl hrl
        have HBD := Lib.hid hbd; have HPL := Lib.hid hpl; have HBR := Lib.hid hbr; have HO := Lib.hid hown; have HLL := Lib.hid hll
        clear hbd hpl hbr hown hll
        by_cases hpw : p < ws.length
        · obtain ⟨hbad, hnx⟩ := badFrom_none HBD.out hpw
          obtain ⟨n1, n2, n3, n4, n5⟩ := not_bad hbad
          have hpl2 : places ws = (pre ++ [p]) ++ plFrom ws (nxt ws p) := by rw [HPL.out, plFrom_ok hpw hbad]; simp
          have hpm : p ∈ places ws := by rw [hpl2]; simp
          have hcf := class_fits HOK.out hpm
          have hfl : rs ++ (pre ++ [p]).flatMap (holdsL ws) = (rs ++ pre.flatMap (holdsL ws)) ++ holdsL ws p := by rw [List.flatMap_append, ← List.append_assoc]; simp
          have HFL := Lib.hid hfl
          have HPL2 := Lib.hid hpl2; have HPM := Lib.hid hpm; have HCF := Lib.hid hcf
          have hcast := Lib.hid (nxt_cast hbad)
          have HNX := Lib.hid hnx; have HBAD := Lib.hid hbad
          have hnl := nxt_le hbad
          have hnxe : nxt ws p = p + 3 + slotsN ws p := rfl
          have hsn : slotsN ws p = (nth ws (p + 2) / 4).toNat := rfl
          have hsd : ((slotsN ws p : Nat) : Int) = nth ws (p + 2) / 4 := by omega
          have HSD := Lib.hid hsd
          have hc0 := hR p hpw
          have hH : holdsL ws p = nth ws p :: (if formOf ws p = 0 then slotsL ws p else []) := rfl
          have HH := Lib.hid hH
          have hLe : ∃ LL, LL = rs ++ pre.flatMap (holdsL ws) := ⟨_, rfl⟩
          obtain ⟨LL, hLe⟩ := hLe
          rw [← hLe] at HFL HLL HO
          have HSLEN := Lib.hid (slotsL_len HBAD.out)
          obtain ⟨u1, u2⟩ := HW.out (p + 2)
          clear hbad hnx hpl2 hpm hcf hR hfl hH hLe hsd
          go_wp2_with fail
          refine (one_more_any ws F F N N LL (nth ws p) wr HO.out HCF.out hNw (by have := HLL.out; omega)).mono ?_
          rintro e w6 ⟨rfl, ho6, ht6⟩
          have hb6 := HBR.out.trans (ht6.below (B := F) (Nat.le_of_lt (HO.out.lt _ rfl).2) (fun k hk e => by subst e; exact absurd hk (Nat.lt_irrefl _)))
          have HO6 := Lib.hid ho6; have HB6 := Lib.hid hb6
          clear ho6 ht6 hb6 hc0
          go_wp2_with fail
          go_loopw [9] (fun i wr => ∃ k : Nat, i = .int .i64 ((p + 3 + k : Nat) : Int) ∧ k ≤ slotsN ws p ∧ (formOf ws p ≠ 0 → k = 0) ∧ Own wr F (.slice (some ⟨F, 0, none⟩) N N) (cntRow ((LL ++ [nth ws p]) ++ (slotsL ws p).take k) N) ∧ Below F w1 wr) (fun i _ => 3000 - (intOf i).toNat)
          case atStart => exact ⟨0, by go_num, Nat.zero_le _, fun _ => rfl, by rw [List.take_zero, List.append_nil]; exact HO6.out, HB6.out⟩
          case round =>
            obtain ⟨k, rfl, hk, hform, hown, hbr⟩ := hrel
            have hR := HROW.out _ hbr
            have HFORM := Lib.hid hform; have HO9 := Lib.hid hown; have HBR9 := Lib.hid hbr
            have hc2 := hR (p + 2) (by omega)
            clear hform hown hbr
            by_cases hgo : k < slotsN ws p ∧ formOf ws p = 0
            · obtain ⟨hkl, hf0⟩ := hgo
              have hjl' : (p : Int) + 3 + k < (p : Int) + 3 + nth ws (p + 2) / 4 := by have := HSD.out; omega
              have hm0 : (nth ws (p + 2) % 4 == 0) = true := by have h9 : nth ws (p + 2) % 4 = 0 := hf0; simpa using h9
              have hcl9 := hR (p + 3 + k) (by omega)
              have hcf := slot_fits HOK.out HPM.out (by rw [hf0]; decide) hkl
              have HCF9 := Lib.hid hcf
              have hTK := Lib.hid (take_slot (xs := slotsL ws p) (k := k) (by have := HSLEN.out; omega))
              have hNS := Lib.hid (slotsL_nth HBAD.out hkl)
              have HF0 := Lib.hid hf0
              have hl9 : ((LL ++ [nth ws p]) ++ (slotsL ws p).take k).length ≤ 100000000 := by
                have h1 := HLL.out
                rw [List.length_append, List.length_append, List.length_take, List.length_singleton]; omega
              have HL9 := Lib.hid hl9
              clear hcf hf0 hR hl9
              go_wp2_with fail
              refine (one_more_any ws F F N N _ (nth ws (p + 3 + k)) wr HO9.out HCF9.out hNw HL9.out).mono ?_
              rintro e w10 ⟨rfl, ho10, ht10⟩
              have hb10 := HBR9.out.trans (ht10.below (B := F) (Nat.le_of_lt (HO9.out.lt _ rfl).2) (fun k hk e => by subst e; exact absurd hk (Nat.lt_irrefl _)))
              have HO10 := Lib.hid ho10; have HB10 := Lib.hid hb10
              clear ho10 ht10 hb10
              go_wp2_with fail
              go_roundw
              case rel => exact ⟨k + 1, by go_num, by omega, fun h => absurd HF0.out h, by rw [hTK.out, hNS.out, ← List.append_assoc]; exact HO10.out, HB10.out⟩
              case measure => simp [intOf]; omega
            · have hend : (LL ++ [nth ws p]) ++ (slotsL ws p).take k = LL ++ holdsL ws p := by
                rw [HH.out]
                by_cases hf0 : formOf ws p = 0
                · have : k = slotsN ws p := by
                    have : ¬ k < slotsN ws p := fun h => hgo ⟨h, hf0⟩
                    omega
                  rw [if_pos hf0, this, ← HSLEN.out, List.take_length]; simp
                · rw [if_neg hf0, HFORM.out hf0, List.take_zero]; simp
              have HOE := HO9.out
              rw [hend, ← HFL.out] at HOE
              have HOE' := Lib.hid HOE
              clear hend HOE hR
              by_cases hkl : k < slotsN ws p
              · have hjl' : (p : Int) + 3 + k < (p : Int) + 3 + nth ws (p + 2) / 4 := by have := HSD.out; omega
                have hm0 : (nth ws (p + 2) % 4 == 0) = false := by
                  have h9 : ¬ nth ws (p + 2) % 4 = 0 := fun h => hgo ⟨hkl, h⟩
                  simpa using h9
                clear hgo
                go_wp2_with fail
                go_roundw
                case rel => exact ⟨nxt ws p, pre ++ [p], by rw [hcast.out], by omega, by omega, HNX.out, HPL2.out, HOE'.out, HBR9.out⟩
                case measure => simp [intOf]; omega
              · have hjl' : ¬ (p : Int) + 3 + k < (p : Int) + 3 + nth ws (p + 2) / 4 := by have := HSD.out; omega
                clear hgo
                go_wp2_with fail
                go_roundw
                case rel => exact ⟨nxt ws p, pre ++ [p], by rw [hcast.out], by omega, by omega, HNX.out, HPL2.out, HOE'.out, HBR9.out⟩
                case measure => simp [intOf]; omega
        · have hpe : places ws = pre := by rw [HPL.out, plFrom_end (by omega), List.append_nil]
          subst hpe
          have hbdf := HLL.out
          have hO := HO.out
          change Own _ _ _ (cntRow (allL ws rs) N) at hO
          have hall : (allL ws rs).length ≤ 50000000 := hbdf
          have hbc : ∀ q, 0 ≤ cntF (allL ws rs) q ∧ cntF (allL ws rs) q ≤ 50000000 := fun q => by have := cntF_bd (allL ws rs) q; omega
          have HOL := Lib.hid hO; have HBC := Lib.hid hbc
          have hcl : cntL ws rs = (places ws).map (cntF (allL ws rs)) := rfl
          have HCL := Lib.hid hcl
          have hcn : ∀ q, q < N → nth (cntRow (allL ws rs) N) q = cntF (allL ws rs) q := fun q h => cntRow_nth h
          have HCN := Lib.hid hcn
          have hlen : (cntRow (allL ws rs) N).length = N := cntRow_len _ _
          have HLEN := Lib.hid hlen
          clear hO hbdf hall hbc hcl HLL HO HBD HPL hcn hlen
          generalize cntF (allL ws rs) = f at *
          generalize cntRow (allL ws rs) N = CR at *
          obtain ⟨wl, rfl⟩ : ∃ x, x = wr := ⟨_, rfl⟩
          have HBL := HBR
          have hFl : F ≤ wl.heap.size := (Nat.le_of_lt (HOL.out.lt _ rfl).2)
          have hrowL : ∀ W, Below wl.heap.size wl W → Row W b o ws := fun W h => HROW.out W (HBL.out.trans (h.mono hFl))
          have hownL : ∀ W, Below wl.heap.size wl W → Own W F (.slice (some ⟨F, 0, none⟩) N N) CR := fun W h => HOL.out.below h (fun q hq => (HOL.out.lt q hq).2)
          have HROWL := Lib.hid hrowL; have HOWNL := Lib.hid hownL
          clear HBR hR hrowL hownL
          go_wp2_with fail
          go_loopw [10, 11] (fun v i wr => ∃ (p : Nat) (pre : List Nat), i = .int .i64 p ∧ 2 ≤ p ∧ p ≤ 200000 ∧ badFrom ws p = none ∧ places ws = pre ++ plFrom ws p ∧ Below wl.heap.size wl wr ∧ Own wr wl.heap.size v (pre.map f)) (fun _ i _ => ws.length - (intOf i).toNat)
          case atStart => exact ⟨2, [], rfl, by omega, by omega, HOK.out.bad, places_eq ws, Below.refl _ _, Own.nil _ _⟩
          case round =>
            obtain ⟨p, pre, rfl, hp2, hp4, hbd, hpl, hb5, hown5⟩ := hrel
            have HBD := Lib.hid hbd; have HPL := Lib.hid hpl; have HB5 := Lib.hid hb5; have HO5 := Lib.hid hown5
            have hws : wl.heap.size ≤ wr.heap.size := hb5.size
            have hR := HROWL.out _ hb5
            have hNn := HOWNL.out _ hb5
            clear hbd hpl hb5 hown5
            by_cases hpw : p < ws.length
            · obtain ⟨hbad, hnx⟩ := badFrom_none HBD.out hpw
              obtain ⟨n1, n2, n3, n4, n5⟩ := not_bad hbad
              have hpl2 : places ws = (pre ++ [p]) ++ plFrom ws (nxt ws p) := by rw [HPL.out, plFrom_ok hpw hbad]; simp
              have HPL2 := Lib.hid hpl2
              have hcast := Lib.hid (nxt_cast hbad)
              have HNX := Lib.hid hnx
              have hnl := nxt_le hbad
              have hnxe : nxt ws p = p + 3 + slotsN ws p := rfl
              have hsn : slotsN ws p = (nth ws (p + 2) / 4).toNat := rfl
              have hcn := hNn.cell p (by rw [HLEN.out]; omega)
              rw [HCN.out p (by omega)] at hcn
              have hc2 := hR (p + 2) (by omega)
              have hpn : p < N := by omega
              have hly : (pre.map f).length ≤ 1000000000 := by
                have h3 := places_len ws
                rw [HPL.out, List.length_append] at h3
                rw [List.length_map]; omega
              have HLY := Lib.hid hly
              have hz6 : wl.heap.size ≤ (wr.alloc (.cells #[.int .i64 (f p)] 3)).heap.size := by rw [World.size_alloc]; omega
              have HMP := Lib.hid (show (pre ++ [p]).map f = pre.map f ++ [f p] by simp)
              clear hbad hnx hpl2 hR hNn hly
              go_wp2_with (at_builtin; refine wpList_pushN rfl _ _ rfl wl.heap.size _ (pre.map f) rfl (HO5.out.alloc _) wr.heap.size 1 (f p) rfl (cell_new wr _ _ _ 0) HLY.out hz6 ?_; intro g6 n6 cap6 w6 hown6 hg6 hgr6; have HO6 := Lib.hid hown6; have HB6 := Lib.hid ((HB5.out.alloc hws _).grown hgr6 hz6 (fun q hq => (HO5.out.lt q hq).1)); have hr6 := HROWL.out _ HB6.out (p + 2) (by omega); clear hown6 hgr6)
              go_roundw
              case rel => exact ⟨nxt ws p, pre ++ [p], by rw [hcast.out], by omega, by omega, HNX.out, HPL2.out, HB6.out, by rw [HMP.out]; exact HO6.out⟩
              case measure => simp [intOf]; omega
            · have hpe : places ws = pre := by rw [HPL.out, plFrom_end (by omega), List.append_nil]
              subst hpe
              rw [← HCL.out] at HO5
              obtain ⟨A5, c5, rfl, -⟩ := HO5.out.form2
              have hl2 : w.heap.size ≤ wl.heap.size := by have h1 := hsz.out; have h2 := HFE.out; omega
              have hl3 : w.heap.size ≤ w1.heap.size := HX0.out.size
              clear hR hNn
              go_wp2_with fail
              refine bodyPost_ret (v := .slice A5 (cntL ws rs).length c5) (by simp [results, Try.results61, go_sem]) rfl ⟨A5, c5, rfl, HO5.out.mono hl2, ?_⟩
              have h1 := HBL.out.trans (HB5.out.mono hFl)
              rw [← HFE.out] at h1
              exact HX0.out.trans (h1.mono hl3)
end Go.Proofs.Ytjpppdacamhhfaa
