/- The document's mark and Reach tell what is reached. Conditions: numbers of 64 bits, a heap that may be, roots that fit. -/
import Derived.Test.YtjpppdacamhhfaaRef
import Derived.Test.YtjpppdacamhhfaaMem4
import Derived.Test.YtjpppdacamhhfaaRRSpec
import Derived.Test.YtjpppdacamhhfaaHSpec4
namespace Go.Proofs.Ytjpppdacamhhfaa
open Go.RowKit
set_option linter.unusedVariables false

def MarkEnd (ws : List Int) (base G cap : Nat) (f : Nat → Bool) (o : Int) (w : World) (e : Ending) (w' : World) : Prop :=
  e = .returned (.bool (newB ws f o)) ∧ OwnB w' base (.slice (some ⟨G, 0, none⟩) ws.length cap) (markT ws f o) ws.length ∧ w.grownBy w' (some G)

set_option maxRecDepth 100000 in
set_option maxHeartbeats 1000000 in
theorem mark_any (ws : List Int) (b o c base G cap : Nat) (f : Nat → Bool) (w : World) (hr : Row w b o ws) (hw : I64 ws) (hl : ws.length ≤ 100000) (hs : bad1 ws = none)
    (hO : OwnB w base (.slice (some ⟨G, 0, none⟩) ws.length cap) f ws.length) (x : Int) (h1 : -9223372036854775808 ≤ x) (h2 : x ≤ 9223372036854775807) :
    Calls Try.prog 113 #[.slice (some ⟨b, o, none⟩) ws.length c, .slice (some ⟨G, 0, none⟩) ws.length cap, .int .i64 x] w (MarkEnd ws base G cap f x w) := by
  have HTH := Lib.hid (rthing_any ws b o c w hr hw hl hs x h1 h2)
  have HO := Lib.hid hO
  clear hr hw hs hO
  cases ht : isTh ws x
  · have hn : newB ws f x = false := by unfold newB; rw [ht]; rfl
    have hm : markT ws f x = f := by unfold markT; rw [if_neg (by rw [ht]; decide)]
    have HN := Lib.hid hn; have HM := Lib.hid hm; have HT := Lib.hid ht
    clear hn hm
    rw [ht] at HTH
    clear ht
    go_enter Try.func113, Try.ntmps113
    go_wp2_with (go_at_call 85; refine HTH.out.mono ?_; rintro e w' ⟨rfl, rfl⟩)
    go_ret
    unfold MarkEnd
    rw [HN.out, HM.out]
    exact ⟨rfl, HO.out, World.grownBy.refl _ _⟩
  · obtain ⟨q1, q2, q3, q4⟩ := isTh_mem ht
    obtain ⟨q5, q6, _⟩ := places_mem q1
    have hp : ((pcl x : Nat) : Int) = x / 2 := by unfold pcl; omega
    have hpl : pcl x < ws.length := q6
    have hc := HO.out.cell (pcl x) hpl
    have hf := HO.out.frz (pcl x)
    have e1 : (x / 2).toNat = pcl x := rfl
    rw [← e1] at hc hf
    have e2 : x / 2 < (ws.length : Int) := by omega
    have e3 : 0 ≤ x / 2 := by omega
    have HT := Lib.hid ht
    rw [ht] at HTH
    clear ht q1 q2 hp e1
    cases hfp : f (pcl x)
    · have hn : newB ws f x = true := by unfold newB; rw [HT.out, hfp]; rfl
      have hm : markT ws f x = put1 f (pcl x) := by unfold markT; rw [if_pos HT.out]
      have HN := Lib.hid hn; have HM := Lib.hid hm
      have hf' : f (x / 2).toNat = false := hfp
      have HP := Lib.hid (HO.out.put (x / 2).toNat)
      clear hn hm hfp
      go_enter Try.func113, Try.ntmps113
      go_wp2_with (go_at_call 85; refine HTH.out.mono ?_; rintro e w' ⟨rfl, rfl⟩)
      go_ret
      unfold MarkEnd
      rw [HN.out, HM.out]
      exact ⟨rfl, HP.out, grownBy_setCell (World.grownBy.refl _ _) (.inr rfl) _⟩
    · have hn : newB ws f x = false := by unfold newB; rw [HT.out, hfp]; rfl
      have hm : markT ws f x = f := by unfold markT; rw [if_pos HT.out]; exact put1_id hfp
      have HN := Lib.hid hn; have HM := Lib.hid hm
      have hf' : f (x / 2).toNat = true := hfp
      clear hn hm hfp
      go_enter Try.func113, Try.ntmps113
      go_wp2_with (go_at_call 85; refine HTH.out.mono ?_; rintro e w' ⟨rfl, rfl⟩)
      go_ret
      unfold MarkEnd
      rw [HN.out, HM.out]
      exact ⟨rfl, HO.out, World.grownBy.refl _ _⟩

def RReachEnd (ws rs : List Int) (w : World) (e : Ending) (w' : World) : Prop :=
  ∃ f G, Tells ws rs f ∧ e = .returned (.slice (some ⟨G, 0, none⟩) ws.length ws.length) ∧ OwnB w' w.heap.size (.slice (some ⟨G, 0, none⟩) ws.length ws.length) f ws.length ∧ Below w.heap.size w w'
theorem markT_keep {ws : List Int} {f : Nat → Bool} {o : Int} {p : Nat} (h : f p = true) : markT ws f o p = true := by
  unfold markT; split
  · exact put1_le f _ p h
  · exact h

set_option maxRecDepth 100000 in
set_option maxHeartbeats 4000000 in
theorem rreach_any (ws rs : List Int) (b o c : Nat) (B : Option Addr) (d : Nat) (w : World) (hr : Row w b o ws) (hlt : b < w.heap.size) (hok : OkH ws) (hw : I64 ws)
    (hB : Ints w B rs) (hri : I64 rs) (hrl : rs.length ≤ 1000000) (hfit : ∀ o ∈ rs, fitsB ws o = true) :
    Calls Try.prog 62 #[.agg #[.slice (some ⟨b, o, none⟩) ws.length c], .slice B rs.length d] w (RReachEnd ws rs w) := by
  have hx0 : Below w.heap.size w (w.alloc (.cells #[.slice (some ⟨b, o, none⟩) ws.length c] 33)) := (Below.refl _ _).alloc (Nat.le_refl _) _
  obtain ⟨q1, q2⟩ : 2 ≤ ws.length ∧ ws.length ≤ 2000 := ⟨hok.two, hok.most⟩
  have HR := Lib.hid (hr.below hx0 hlt); have HX0 := Lib.hid hx0
  have HB := Lib.hid (hB.below hx0)
  have HW := Lib.hid hw; have HOK := Lib.hid hok; have HRI := Lib.hid hri; have HFIT := Lib.hid hfit
  have hsz : Hid ((w.alloc (.cells #[.slice (some ⟨b, o, none⟩) ws.length c] 33)).heap.size = w.heap.size + 1) := by show _ = _; simp
  clear hr hx0 hB hw hok hri hfit
  have hbs : w.heap.size + 1 ≤ (w.alloc (.cells #[.slice (some ⟨b, o, none⟩) ws.length c] 33)).heap.size := by simp
  go_enter Try.func62, Try.ntmps62
  go_wp2_with (at_make; refine wpList_falses rfl _ _ rfl (w.heap.size + 1) ws.length rfl rfl (by omega) hbs ?_; intro w2 hown2 hgr2; have HO2 := Lib.hid hown2; have HG2 := Lib.hid hgr2; clear hown2 hgr2)
  generalize hw1 : (w.alloc (.cells #[.slice (some ⟨b, o, none⟩) ws.length c] 33)) = w1 at *
  clear hw1
  have hw12 : Below w1.heap.size w1 w2 := (Below.refl _ _).grown HG2.out (Nat.le_refl _) (fun q hq => by cases hq)
  have HB12 := Lib.hid hw12
  clear hw12
  have hO2 : OwnB w2 (w.heap.size + 1) (.slice (some ⟨w.heap.size + 1, 0, none⟩) ws.length ws.length) (fun _ => false) ws.length := by rw [← hsz.out]; have := HO2.out; rwa [← hsz.out] at this
  have HO2' := Lib.hid hO2
  clear hO2 HO2
  have hbr : ∀ wr, w2.grownBy wr (some (w.heap.size + 1)) → Below w1.heap.size w1 wr := fun wr hg => HB12.out.grown hg HB12.out.size (fun q hq => by have := hsz.out; simp at hq; omega)
  have HBR := Lib.hid hbr
  clear hbr
  have hZ : w1.heap.size ≤ w2.heap.size := HB12.out.size
  have hGw : w.heap.size < w.heap.size + 1 := Nat.lt_succ_self _
  generalize w.heap.size + 1 = G at *
  go_loopw [7] (fun i wr => ∃ (j : Nat) (f : Nat → Bool), i = .int .i64 j ∧ j ≤ rs.length ∧ Rooted ws rs j f ∧ w2.grownBy wr (some G) ∧ OwnB wr G (.slice (some ⟨G, 0, none⟩) ws.length ws.length) f ws.length) (fun i _ => rs.length - (intOf i).toNat)
  case atStart => exact ⟨0, _, rfl, Nat.zero_le _, rooted_zero ws rs, World.grownBy.refl _ _, HO2'.out⟩
  case round =>
    obtain ⟨j, f, rfl, hj, hro, hgr, hown⟩ := hrel
    have HRO := Lib.hid hro; have HG := Lib.hid hgr; have HO := Lib.hid hown
    have HBW := Lib.hid (HBR.out _ hgr)
    clear hro hgr hown
    by_cases hjl : j < rs.length
    · obtain ⟨b', o', rfl, hb', hrow'⟩ := HB.out (by omega)
      have hcell := (hrow'.below HBW.out hb') j hjl
      obtain ⟨t1, t2⟩ := HRI.out j
      have hf := HFIT.out (nth rs j) (by rw [nth_eq hjl]; exact List.getElem_mem _)
      have HST := Lib.hid (rooted_step HRO.out hjl hf)
      clear hrow' hf
      go_wp2_with fail
      refine (mark_any ws b o c G G ws.length f wr (HR.out.below HBW.out (by have := hsz.out; omega)) HW.out (by omega) HOK.out.bad HO.out _ t1 t2).mono ?_
      rintro e w4 ⟨rfl, hO4, hg4⟩
      have HO4 := Lib.hid hO4; have HG4 := Lib.hid (grownBy_trans HG.out hg4)
      clear hO4 hg4
      go_wp2_with fail
      go_roundw
      case rel => exact ⟨j + 1, _, by go_num, by omega, HST.out, HG4.out, HO4.out⟩
      case measure => simp [intOf]; omega
    · obtain rfl : j = rs.length := by omega
      have HM := Lib.hid (rooted_end HRO.out)
      clear HRO
      obtain ⟨wo, rfl⟩ : ∃ x, x = wr := ⟨_, rfl⟩
      have HOo := HO
      clear HO
      go_wp2_with fail
      go_loopw [8, 9] (fun a i wr => ∃ (r : Nat) (x : Bool) (f : Nat → Bool), i = .int .i64 r ∧ a = .bool x ∧ r ≤ ws.length + 1 ∧ Marks ws rs f ∧ (x = true → r ≤ cnt f ws.length) ∧ (x = false → Closed ws f) ∧ w2.grownBy wr (some G) ∧ OwnB wr G (.slice (some ⟨G, 0, none⟩) ws.length ws.length) f ws.length) (fun _ i _ => ws.length + 1 - (intOf i).toNat)
      case atStart => exact ⟨0, true, f, rfl, rfl, by omega, HM.out, fun _ => Nat.zero_le _, (fun e => by cases e), HG.out, HOo.out⟩
      case round =>
        obtain ⟨r, x, f, rfl, rfl, hr, hm, hc1, hc2, hgr, hown⟩ := hrel
        have HM := Lib.hid hm; have HC2 := Lib.hid hc2; have HG := Lib.hid hgr; have HO := Lib.hid hown
        have HBW := Lib.hid (HBR.out _ hgr)
        clear hm hc2 hgr hown
        cases x
        · have HT := Lib.hid (HM.out.tells (HC2.out rfl))
          clear hc1
          by_cases hrl : r ≤ ws.length
          all_goals
            go_wp2_with fail
            refine bodyPost_ret (v := .slice (some ⟨G, 0, none⟩) ws.length ws.length) (by simp [results, Try.results62, go_sem]) rfl ⟨f, G, HT.out, rfl, HO.out.mono (by omega), HX0.out.trans (HBW.out.mono (by have := hsz.out; omega))⟩
        · have hrc := hc1 rfl
          have hcl := cnt_le f ws.length
          have HRC := Lib.hid hrc
          have hrl : r ≤ ws.length := by omega
          clear hc1 hrc hcl HC2
          go_wp2_with fail
          obtain ⟨wo2, rfl⟩ : ∃ x, x = wr := ⟨_, rfl⟩
          have HOo2 := HO; have HGo2 := HG
          clear HO HG HBW
          go_loopw [8, 10] (fun a i wr => ∃ (p : Nat) (pre : List Nat) (g : Nat → Bool) (x : Bool), i = .int .i64 p ∧ a = .bool x ∧ 2 ≤ p ∧ p ≤ 200000 ∧ badFrom ws p = none ∧ places ws = pre ++ plFrom ws p ∧ Rnd ws rs ws.length f (heldL ws f pre) g x ∧ w2.grownBy wr (some G) ∧ OwnB wr G (.slice (some ⟨G, 0, none⟩) ws.length ws.length) g ws.length) (fun _ i _ => ws.length - (intOf i).toNat)
          case atStart => exact ⟨2, [], f, false, rfl, rfl, by omega, by omega, HOK.out.bad, places_eq ws, Rnd.start HM.out, HGo2.out, HOo2.out⟩
          case round =>
            obtain ⟨p, pre, g, x, rfl, rfl, hp2, hp4, hbd, hpl, hrnd, hgr, hown⟩ := hrel
            have HBD := Lib.hid hbd; have HPL := Lib.hid hpl; have HG := Lib.hid hgr; have HO := Lib.hid hown; have HN := Lib.hid hrnd
            have HBW := Lib.hid (HBR.out _ hgr)
            clear hbd hpl hgr hown hrnd
            by_cases hpw : p < ws.length
            · obtain ⟨hbad, hnx⟩ := badFrom_none HBD.out hpw
              obtain ⟨n1, n2, n3, n4, n5⟩ := not_bad hbad
              have hpm : p ∈ places ws := by rw [HPL.out, plFrom_ok hpw hbad]; simp
              have hpl2 : places ws = (pre ++ [p]) ++ plFrom ws (nxt ws p) := by rw [HPL.out, plFrom_ok hpw hbad]; simp
              have HPM := Lib.hid hpm; have HPL2 := Lib.hid hpl2
              have hcast := Lib.hid (nxt_cast hbad)
              have HBAD := Lib.hid hbad; have HNX := Lib.hid hnx
              have hnl := nxt_le hbad
              have hnxe : nxt ws p = p + 3 + slotsN ws p := rfl
              have hsn : slotsN ws p = (nth ws (p + 2) / 4).toNat := rfl
              clear hbad hnx hpm hpl2
              have hrow := HR.out.below HBW.out (by have := hsz.out; omega)
              have hc0 := hrow p (by omega)
              have hc2 := hrow (p + 2) (by omega)
              clear hrow
              have hcm := HO.out.cell p hpw
              obtain ⟨t1, t2⟩ := HW.out p
              obtain ⟨u1, u2⟩ := HW.out (p + 2)
              cases hgp : g p
              · have HSK := Lib.hid (HN.out.skip hgp)
                rw [hgp] at hcm
                clear hgp
                go_wp2_with fail
                go_roundw
                case rel => exact ⟨nxt ws p, pre ++ [p], g, x, by rw [hcast.out], rfl, by omega, by omega, HNX.out, HPL2.out, HSK.out, HG.out, HO.out⟩
                case measure => simp [intOf]; omega
              · have HRP := Lib.hid (HN.out.marks.just p hgp)
                have HGP := Lib.hid hgp
                rw [hgp] at hcm
                clear hgp
                have hcf := class_fits HOK.out HPM.out
                have hcl : kd (nth ws p) = 3 → Rch ws rs (pcl (nth ws p)) := fun hk => .step p _ HRP.out List.mem_cons_self hk
                have HST := Lib.hid (HN.out.step (nth ws p) hcl hcf (fun hk => (places_mem (fits_pl hcf hk)).2.1))
                clear hcf hcl
                go_wp2_with fail
                refine (mark_any ws b o c G G ws.length g wr (HR.out.below HBW.out (by have := hsz.out; omega)) HW.out (by omega) HOK.out.bad HO.out _ t1 t2).mono ?_
                rintro e w4 ⟨rfl, hO4, hg4⟩
                have HO4 := Lib.hid hO4; have HG4 := Lib.hid (grownBy_trans HG.out hg4)
                clear hO4 hg4 hc0 hc2 hcm
                have HB4 := Lib.hid (HBR.out _ HG4.out)
                have HGP4 := Lib.hid (markT_keep (ws := ws) (o := nth ws p) HGP.out)
                generalize markT ws g (nth ws p) = g0 at *
                have hslen : (slotsL ws p).length = slotsN ws p := slotsL_len HBAD.out
                have HF4 : Hid (formOf ws p = nth ws (p + 2) % 4) := rfl
                cases x
                all_goals
                  go_wp2_with fail
                  obtain ⟨wo3, rfl⟩ : ∃ x, x = w4 := ⟨_, rfl⟩
                  have HOo3 := HO4; have HGo3 := HG4
                  clear HO4 HG4 HB4
                  go_loopw [8, 12] (fun a i wr => ∃ (k : Nat) (g1 : Nat → Bool) (x : Bool), i = .int .i64 ((p + 3 + k : Nat) : Int) ∧ a = .bool x ∧ k ≤ slotsN ws p ∧ (formOf ws p ≠ 0 → k = 0) ∧ g1 p = true ∧ Rnd ws rs ws.length f (heldL ws f pre ++ (nth ws p :: (slotsL ws p).take k)) g1 x ∧ w2.grownBy wr (some G) ∧ OwnB wr G (.slice (some ⟨G, 0, none⟩) ws.length ws.length) g1 ws.length) (fun _ i _ => ws.length + 1 - (intOf i).toNat)
                  case atStart => exact ⟨0, g0, _, by go_num, rfl, Nat.zero_le _, fun _ => rfl, HGP4.out, HST.out, HGo3.out, HOo3.out⟩
                  case round =>
                    obtain ⟨k, g1, y, rfl, rfl, hk, hk0, hgp1, hrnd, hgr, hown⟩ := hrel
                    have HG := Lib.hid hgr; have HO := Lib.hid hown; have HN1 := Lib.hid hrnd; have HGP1 := Lib.hid hgp1; have HK0 := Lib.hid hk0
                    have HBW := Lib.hid (HBR.out _ hgr)
                    clear hgr hown hrnd hgp1 hk0
                    have hrow := HR.out.below HBW.out (by omega)
                    have hc2 := hrow (p + 2) (by omega)
                    by_cases hks : k < slotsN ws p
                    · have hck := hrow (p + 3 + k) (by omega)
                      clear hrow
                      obtain ⟨v1, v2⟩ := HW.out (p + 3 + k)
                      by_cases hf0 : formOf ws p = 0
                      · have hm4 : nth ws (p + 2) % 4 = 0 := hf0
                        have hcf := slot_fits HOK.out HPM.out (by omega) hks
                        have hmem : nth ws (p + 3 + k) ∈ holdsL ws p := by
                          unfold holdsL; rw [if_pos hf0]; exact List.mem_cons_of_mem _ ((slotsL_mem HBAD.out).2 ⟨k, hks, rfl⟩)
                        have hcl : kd (nth ws (p + 3 + k)) = 3 → Rch ws rs (pcl (nth ws (p + 3 + k))) := fun hk => .step p _ HRP.out hmem hk
                        have HST2 := Lib.hid (HN1.out.step (nth ws (p + 3 + k)) hcl hcf (fun hk => (places_mem (fits_pl hcf hk)).2.1))
                        have HKP := Lib.hid (markT_keep (ws := ws) (o := nth ws (p + 3 + k)) HGP1.out)
                        have HTK := Lib.hid (take_slot (xs := slotsL ws p) (k := k) (by omega))
                        have HNS := Lib.hid (slotsL_nth HBAD.out hks)
                        have HF0 := Lib.hid hf0
                        clear hcf hmem hcl hf0
                        cases y
                        all_goals
                          go_wp2_with fail
                          refine (mark_any ws b o c G G ws.length g1 wr (HR.out.below HBW.out (by omega)) HW.out (by omega) HOK.out.bad HO.out _ v1 v2).mono ?_
                          rintro e w5 ⟨rfl, hO5, hg5⟩
                          have HO5 := Lib.hid hO5; have HG5 := Lib.hid (grownBy_trans HG.out hg5)
                          clear hO5 hg5
                          go_wp2_with fail
                          go_roundw
                          case rel => exact ⟨k + 1, _, _, by go_num, rfl, by omega, fun e => absurd HF0.out e, HKP.out, by rw [HTK.out, HNS.out]; have h9 := HST2.out; rw [List.append_assoc] at h9; exact h9, HG5.out, HO5.out⟩
                          case measure => simp [intOf]; omega
                      · have hm4 : ¬ nth ws (p + 2) % 4 = 0 := hf0
                        obtain rfl := HK0.out hf0
                        have HF0 := Lib.hid hf0
                        have HDN : Hid (Rnd ws rs ws.length f (heldL ws f (pre ++ [p])) g1 y) := by
                          refine Rnd.done (p := p) (g := g1) ?_ (fun e => ?_)
                          · have := HN1.out
                            unfold holdsL; rw [if_neg HF0.out]; simpa using this
                          · subst e
                            rw [← (HN1.out.no rfl).1]; exact HGP1.out
                        clear hf0
                        go_wp2_with fail
                        go_roundw
                        case rel => exact ⟨nxt ws p, pre ++ [p], g1, y, by rw [hcast.out], rfl, by omega, by omega, HNX.out, HPL2.out, HDN.out, HG.out, HO.out⟩
                        case measure => simp [intOf]; omega
                    · obtain rfl : k = slotsN ws p := by omega
                      have HDN : Hid (Rnd ws rs ws.length f (heldL ws f (pre ++ [p])) g1 y) := by
                        refine Rnd.done (p := p) (g := g1) ?_ (fun e => ?_)
                        · have := HN1.out
                          unfold holdsL
                          rw [show (slotsL ws p).take (slotsN ws p) = slotsL ws p from by rw [← hslen, List.take_length]] at this
                          by_cases hf0 : formOf ws p = 0
                          · rw [if_pos hf0]; exact this
                          · rw [if_neg hf0]
                            have h0 := HK0.out hf0
                            have : slotsL ws p = [] := List.eq_nil_of_length_eq_zero (by omega)
                            have h' := HN1.out
                            rw [this] at h'
                            simpa using h'
                        · subst e
                          rw [← (HN1.out.no rfl).1]; exact HGP1.out
                      clear hrow
                      go_wp2_with fail
                      go_roundw
                      case rel => exact ⟨nxt ws p, pre ++ [p], g1, y, by rw [hcast.out], rfl, by omega, by omega, HNX.out, HPL2.out, HDN.out, HG.out, HO.out⟩
                      case measure => simp [intOf]; omega
            · have hpe : places ws = pre := by rw [HPL.out, plFrom_end (by omega), List.append_nil]
              have HNE : Hid (Rnd ws rs ws.length f (heldL ws f (places ws)) g x) := by show Rnd _ _ _ _ _ _ _; rw [hpe]; exact HN.out
              clear hpe
              have hcl : (x = false → Closed ws g) := fun e => by subst e; exact HNE.out.closed HOK.out HFIT.out
              have hyes : (x = true → r + 1 ≤ cnt g ws.length) := fun e => by have := HNE.out.yes e; have := HRC.out; omega
              have HCL := Lib.hid hcl; have HYS := Lib.hid hyes
              clear hcl hyes
              go_wp2_with fail
              go_roundw
              case rel => exact ⟨r + 1, x, g, by go_num, rfl, by omega, HNE.out.marks, HYS.out, HCL.out, HG.out, HO.out⟩
              case measure => simp [intOf]; omega
end Go.Proofs.Ytjpppdacamhhfaa
