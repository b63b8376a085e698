/- The document's Collect computes what is laid in the order of places. Conditions: a heap that may be, roots that fit. -/
import Derived.Test.YtjpppdacamhhfaaNow
import Derived.Test.YtjpppdacamhhfaaMem5
import Derived.Test.YtjpppdacamhhfaaRReach
import Derived.Test.YtjpppdacamhhfaaDone
import Derived.StillTailTactics
namespace Go.Proofs.Ytjpppdacamhhfaa
open Go.RowKit
set_option linter.unusedVariables false

/-- Two rows of the call's own: what was swept. -/
def SweepOut (ws rs : List Int) (w : World) (e : Ending) (w' : World) : Prop :=
  ∃ f, Tells ws rs f ∧ TwoOut (arrW ws ((places ws).filter f)) (arrR ws rs ((places ws).filter f)) w e w'

set_option maxRecDepth 100000 in
set_option maxHeartbeats 4000000 in
theorem rcollect_any (ws rs : List Int) (b o c : Nat) (B : Option Addr) (d : Nat) (w : World) (hr : Row w b o ws) (hlt : b < w.heap.size) (hok : OkH ws) (hw : I64 ws)
    (hB : Ints w B rs) (hri : I64 rs) (hrl : rs.length ≤ 1000000) (hfit : ∀ o ∈ rs, fitsB ws o = true) :
    Calls Try.prog 64 #[.agg #[.slice (some ⟨b, o, none⟩) ws.length c], .slice B rs.length d] w (SweepOut ws rs w) := by
  have hx0 : Below w.heap.size w ((w.alloc (.cells #[.slice (some ⟨b, o, none⟩) ws.length c] 33)).alloc (.cells #[.slice none 0 0] 33)) := ((Below.refl _ _).alloc (Nat.le_refl _) _).alloc (by simp) _
  have hh0 : Blk ((w.alloc (.cells #[.slice (some ⟨b, o, none⟩) ws.length c] 33)).alloc (.cells #[.slice none 0 0] 33)) w.heap.size 33 #[.slice (some ⟨b, o, none⟩) ws.length c] := (Blk.new _ _ _).alloc _
  have hr0 : Blk ((w.alloc (.cells #[.slice (some ⟨b, o, none⟩) ws.length c] 33)).alloc (.cells #[.slice none 0 0] 33)) (w.heap.size + 1) 33 #[.slice none 0 0] := by
    have := Blk.new (w.alloc (.cells #[.slice (some ⟨b, o, none⟩) ws.length c] 33)) 33 #[.slice none 0 0]
    simpa using this
  obtain ⟨q1, q2⟩ : 2 ≤ ws.length ∧ ws.length ≤ 2000 := ⟨hok.two, hok.most⟩
  have HR := Lib.hid (hr.below hx0 hlt); have HX0 := Lib.hid hx0; have HH0 := Lib.hid hh0; have HR0 := Lib.hid hr0
  have HB := Lib.hid (hB.below hx0)
  have HW := Lib.hid hw; have HOK := Lib.hid hok; have HRI := Lib.hid hri; have HFIT := Lib.hid hfit
  clear hr hx0 hh0 hr0 hB hw hok hri hfit
  have hsz : Hid (w.heap.size + 1 + 1 = ((w.alloc (.cells #[.slice (some ⟨b, o, none⟩) ws.length c] 33)).alloc (.cells #[.slice none 0 0] 33)).heap.size) := by show _ = _; simp
  go_enter Try.func64, Try.ntmps64
  go_wp2_with fail
  generalize hw1 : ((w.alloc (.cells #[.slice (some ⟨b, o, none⟩) ws.length c] 33)).alloc (.cells #[.slice none 0 0] 33)) = w1 at *
  clear hw1
  have hbl : b < w1.heap.size := by have := hsz.out; omega
  refine (rreach_any ws rs b o c B d w1 HR.out hbl HOK.out HW.out HB.out HRI.out hrl HFIT.out).mono ?_
  rintro e w2 ⟨f, G1, hT, rfl, hO2, hb2⟩
  have HT := Lib.hid hT; have HS2 := Lib.hid hO2; have HB2 := Lib.hid hb2
  have hsz2 : w1.heap.size ≤ w2.heap.size := hb2.size
  clear hT hO2 hb2
  go_wp2_with (at_make; refine wpList_zeros rfl _ _ rfl w2.heap.size ws.length rfl rfl (by omega) (Nat.le_refl _) ?_; intro w3 hown3 hgr3; have HO3 := Lib.hid hown3; have HG3 := Lib.hid hgr3; clear hown3 hgr3)
  have hb23 : Below w2.heap.size w2 w3 := (Below.refl _ _).grown HG3.out (Nat.le_refl _) (fun q hq => by cases hq)
  have HB23 := Lib.hid hb23
  rw [← tosL_nil ws ws.length] at HO3
  clear hb23
  generalize hG2 : w2.heap.size = G2 at *
  have HG2E := Lib.hid hG2; clear hG2
  have hseen : ∀ W, Below G2 w2 W → OwnB W w1.heap.size (.slice (some ⟨G1, 0, none⟩) ws.length ws.length) f ws.length := fun W hb => HS2.out.below hb (fun q hq => by have := (HS2.out.lt q hq).2; rw [HG2E.out] at this; exact this)
  have hrowW : ∀ W, Below G2 w2 W → Row W b o ws := fun W hb => HR.out.below (HB2.out.trans (hb.mono hsz2)) hbl
  have hBW : ∀ W, Below G2 w2 W → Ints W B rs := fun W hb => HB.out.below (HB2.out.trans (hb.mono hsz2))
  have hsub : ∀ (pre : List Nat) (p : Nat), places ws = pre ++ plFrom ws p → (∀ q ∈ pre.filter f, q ∈ places ws) ∧ (pre.filter f).Nodup := fun pre p h => by
    have hn := places_nodup ws
    rw [h] at hn
    exact ⟨fun q hq => by rw [h]; exact List.mem_append_left _ (List.mem_filter.1 hq).1, (List.nodup_append.1 hn).1.filter f⟩
  have HSEEN := Lib.hid hseen; have HROW := Lib.hid hrowW; have HBW := Lib.hid hBW; have HSUB := Lib.hid hsub
  clear hseen hrowW hBW hsub
  go_loopw [9, 10] (fun t i wr => ∃ (p : Nat) (pre : List Nat), i = .int .i64 p ∧ t = .int .i64 (endO ws (pre.filter f) 2 : Nat) ∧ 2 ≤ p ∧ p ≤ 200000 ∧ badFrom ws p = none ∧ places ws = pre ++ plFrom ws p ∧ Below G2 w2 wr ∧ Own wr G2 (.slice (some ⟨G2, 0, none⟩) ws.length ws.length) (tosL ws (pre.filter f) ws.length)) (fun _ i _ => ws.length - (intOf i).toNat)
  case atStart => exact ⟨2, [], rfl, rfl, by omega, by omega, HOK.out.bad, places_eq ws, HB23.out, HO3.out⟩
  case round =>
    obtain ⟨p, pre, rfl, rfl, hp2, hp4, hbd, hpl, hbr, hown⟩ := hrel
    obtain ⟨hs1, hs2⟩ := HSUB.out _ _ hpl
    have hes := endO_small HOK.out hs2 hs1
    have hS := HSEEN.out _ hbr
    have hR := HROW.out _ hbr
    have HBD := Lib.hid hbd; have HPL := Lib.hid hpl; have HBR := Lib.hid hbr; have HO := Lib.hid hown; have HS1 := Lib.hid hs1; have HS2' := Lib.hid hs2
    clear hbd hpl hbr hown hs1 hs2
    by_cases hpw : p < ws.length
    · obtain ⟨hbad, hnx⟩ := badFrom_none HBD.out hpw
      obtain ⟨n1, n2, n3, n4, n5⟩ := not_bad hbad
      have hpl2 : places ws = (pre ++ [p]) ++ plFrom ws (nxt ws p) := by rw [HPL.out, plFrom_ok hpw hbad]; simp
      have hpn : p ∉ pre.filter f := fun hm => by
        have hn := places_nodup ws
        rw [hpl2] at hn
        have := (List.nodup_append.1 (List.nodup_append.1 hn).1).2.2 p (List.mem_filter.1 hm).1 p (by simp)
        exact this rfl
      have HPL2 := Lib.hid hpl2; have HPN := Lib.hid hpn
      have hcast := Lib.hid (nxt_cast hbad)
      have HNX := Lib.hid hnx; have HBAD := Lib.hid hbad
      have hnl := nxt_le hbad
      have hnxe : nxt ws p = p + 3 + slotsN ws p := rfl
      have hsn : slotsN ws p = (nth ws (p + 2) / 4).toNat := rfl
      have hszp : szT ws p = 3 + slotsN ws p := rfl
      have hc0 := hS.cell p hpw
      have hc2 := hR (p + 2) (by omega)
      have hfz := HO.out.frz p
      have hct := HO.out.cell p (by rw [tosL_len]; exact hpw)
      have hFS := Lib.hid (filter_snoc f pre p)
      clear hbad hnx hpl2 hpn hS hR
      cases hfp : f p
      · rw [hfp] at hc0
        have hE : Hid ((pre ++ [p]).filter f = pre.filter f) := by show _ = _; rw [hFS.out, if_neg (by rw [hfp]; decide)]
        clear hfp
        go_wp2_with fail
        go_roundw
        case rel => exact ⟨nxt ws p, pre ++ [p], by rw [hcast.out], by rw [hE.out], by omega, by omega, HNX.out, HPL2.out, HBR.out, by rw [hE.out]; exact HO.out⟩
        case measure => simp [intOf]; omega
      · rw [hfp] at hc0
        have hE : Hid ((pre ++ [p]).filter f = pre.filter f ++ [p]) := by show _ = _; rw [hFS.out, if_pos hfp]
        have hput := HO.out.put p (endO ws (pre.filter f) 2 : Nat)
        rw [tosL_set HPN.out hpw] at hput
        have HPUT := Lib.hid hput
        have hend : endO ws ((pre ++ [p]).filter f) 2 = endO ws (pre.filter f) 2 + 3 + slotsN ws p := by rw [hE.out, endO_snoc, hszp]; omega
        have HEND := Lib.hid hend
        clear hfp hput hend
        go_wp2_with fail
        go_roundw
        case rel => exact ⟨nxt ws p, pre ++ [p], by rw [hcast.out], by rw [HEND.out]; go_num, by omega, by omega, HNX.out, HPL2.out, HBR.out.setCell (by dsimp only; omega) _, by rw [hE.out]; exact HPUT.out⟩
        case measure => simp [intOf]; omega
    · have hpe : places ws = pre := by rw [HPL.out, plFrom_end (by omega), List.append_nil]
      subst hpe
      have HORD := Lib.hid (sweep_ord HOK.out HFIT.out HT.out)
      have HBND := Lib.hid (toO_small HOK.out HS2'.out HS1.out)
      have HOMEM : Hid (∀ p, p ∈ (places ws).filter f ↔ p ∈ places ws ∧ f p = true) := fun p => List.mem_filter
      obtain ⟨wo, rfl⟩ : ∃ x, x = wr := ⟨_, rfl⟩
      have HTO := HO
      have hGo := HTO.out.block.2
      have hoz : w1.heap.size ≤ wo.heap.size := by have := HBR.out.size; omega
      have hG2o : w1.heap.size ≤ G2 := hsz2
      have hr0 := hR 0 (by omega)
      have hr1 := hR 1 (by omega)
      rw [Nat.add_zero] at hr0
      have hseen : ∀ W, Below wo.heap.size wo W → OwnB W w1.heap.size (.slice (some ⟨G1, 0, none⟩) ws.length ws.length) f ws.length := fun W hb => HSEEN.out W (HBR.out.trans (hb.mono (by omega)))
      have hrowW : ∀ W, Below wo.heap.size wo W → Row W b o ws := fun W hb => HROW.out W (HBR.out.trans (hb.mono (by omega)))
      have hBW : ∀ W, Below wo.heap.size wo W → Ints W B rs := fun W hb => HBW.out W (HBR.out.trans (hb.mono (by omega)))
      have htoW : ∀ W, Below wo.heap.size wo W → Own W G2 (.slice (some ⟨G2, 0, none⟩) ws.length ws.length) (tosL ws ((places ws).filter f) ws.length) := fun W hb => HTO.out.below hb (fun q hq => by cases hq; exact hGo)
      have HSEEN2 := Lib.hid hseen; have HROW2 := Lib.hid hrowW; have HBW2 := Lib.hid hBW; have HTOW := Lib.hid htoW
      clear hseen hrowW hBW htoW hS hR HO HS1 HS2' HPL HBD hes HSUB
      generalize hordG : (places ws).filter f = ORD at *
      have HORDG := Lib.hid hordG; clear hordG
      have hnow : ∀ (x : Int) (W : World), fitsB ws x = true → Below wo.heap.size wo W → Calls Try.prog 118 #[.slice (some ⟨G2, 0, none⟩) ws.length ws.length, .int .i64 x] W fun e w' => e = .returned (.int .i64 (nowO (toO ws ORD) x)) ∧ W = w' := fun x W hx hb => rnow_any ws ws ORD HBND.out G2 G2 ws.length ws.length x W (HTOW.out W hb) hx (Nat.le_refl _)
      have HNOW := Lib.hid hnow
      clear hnow
      have hnb : ∀ x, fitsB ws x = true → -2147483647 ≤ nowO (toO ws ORD) x ∧ nowO (toO ws ORD) x ≤ 2147483647 := fun x hx => nowO_bd HBND.out hx
      have HNB := Lib.hid hnb
      clear hnb
      have z1 : 0 < ws.length := by omega
      have z2 : 1 < ws.length := by omega
      have z3 : (1 : Int) < (ws.length : Int) := by omega
      go_wp2_with fail
      go_still_tail 6, (by kernel_rfl)
      change wpList _ _ _ _ _ (World.drew wo)
      have hlo : Own ((wo.alloc (.cells #[.int .i64 (nth ws 0), .int .i64 (nth ws 1)] 3)).drew) wo.heap.size (.slice (some ⟨wo.heap.size, 0, none⟩) 2 2) [nth ws 0, nth ws 1] := Own.lit wo wo.heap.size [nth ws 0, nth ws 1] (Nat.le_refl _) (by simp)
      have hbo : Below wo.heap.size wo ((wo.alloc (.cells #[.int .i64 (nth ws 0), .int .i64 (nth ws 1)] 3)).drew) := ((Below.refl _ _).alloc (Nat.le_refl _) _).drew
      have HLO := Lib.hid hlo; have HBO := Lib.hid hbo
      clear hlo hbo hr0 hr1
      go_wp2_with fail
      generalize ((wo.alloc (.cells #[.int .i64 (nth ws 0), .int .i64 (nth ws 1)] 3)).drew) = w5 at *
      generalize hF : wo.heap.size = F at *
      have HFE := Lib.hid hF
      clear hF z1 z2 z3
      have hwo2 : Below G2 w2 wo := HBR.out
      have HWO2 := Lib.hid hwo2
      clear hwo2 HBR
      generalize hhh : nowO (toO ws ORD) = h at *
      have HHH := Lib.hid hhh; clear hhh
      go_loopw [11, 12] (fun v i wr => ∃ (p : Nat) (pre : List Nat), i = .int .i64 p ∧ 2 ≤ p ∧ p ≤ 200000 ∧ badFrom ws p = none ∧ places ws = pre ++ plFrom ws p ∧ Below F wo wr ∧ Own wr F v (laidO h ws (pre.filter f))) (fun _ i _ => ws.length - (intOf i).toNat)
      case atStart => exact ⟨2, [], rfl, by omega, by omega, HOK.out.bad, places_eq ws, HBO.out, HLO.out⟩
      case round =>
        obtain ⟨p, pre, rfl, hp2, hp4, hbd, hpl, hbr, hown⟩ := hrel
        have hS := HSEEN2.out _ hbr
        have hR := HROW2.out _ hbr
        have HBD := Lib.hid hbd; have HPL := Lib.hid hpl; have HBR := Lib.hid hbr; have HO := Lib.hid hown
        have hFw : F ≤ wr.heap.size := by have := hbr.size; have := HFE.out; omega
        clear hbd hpl hbr hown
        by_cases hpw : p < ws.length
        · obtain ⟨hbad, hnx⟩ := badFrom_none HBD.out hpw
          obtain ⟨n1, n2, n3, n4, n5⟩ := not_bad hbad
          have hpl2 : places ws = (pre ++ [p]) ++ plFrom ws (nxt ws p) := by rw [HPL.out, plFrom_ok hpw hbad]; simp
          have hpm : p ∈ places ws := by rw [hpl2]; simp
          have hcf := class_fits HOK.out hpm
          have hll : (laidO h ws (pre.filter f)).length ≤ 2000 := by
            have hn := places_nodup ws
            rw [HPL.out] at hn
            have hs : ∀ q ∈ pre.filter f, q ∈ places ws := fun q hq => by rw [HPL.out]; exact List.mem_append_left _ (List.mem_filter.1 hq).1
            rw [laid_len (fun q hq => (places_mem (hs q hq)).2.2)]
            exact endO_small HOK.out ((List.nodup_append.1 hn).1.filter f) hs
          have HPL2 := Lib.hid hpl2; have HPM := Lib.hid hpm; have HCF := Lib.hid hcf
          have hcast := Lib.hid (nxt_cast hbad)
          have HNX := Lib.hid hnx; have HBAD := Lib.hid hbad
          have hnl := nxt_le hbad
          have hnxe : nxt ws p = p + 3 + slotsN ws p := rfl
          have hsn : slotsN ws p = (nth ws (p + 2) / 4).toNat := rfl
          have hc0 := hS.cell p hpw
          have hr0 := hR p hpw
          have hr1 := hR (p + 1) (by omega)
          have hr2 := hR (p + 2) (by omega)
          have hFS := Lib.hid (filter_snoc f pre p)
          clear hbad hnx hpl2 hpm hcf hS hR
          cases hfp : f p
          · rw [hfp] at hc0
            have hE : Hid ((pre ++ [p]).filter f = pre.filter f) := by show _ = _; rw [hFS.out, if_neg (by rw [hfp]; decide)]
            clear hfp
            go_wp2_with fail
            go_roundw
            case rel => exact ⟨nxt ws p, pre ++ [p], by rw [hcast.out], by omega, by omega, HNX.out, HPL2.out, HBR.out, by rw [hE.out]; exact HO.out⟩
            case measure => simp [intOf]; omega
          · rw [hfp] at hc0
            have hE : Hid (laidO h ws ((pre ++ [p]).filter f) = laidO h ws (pre.filter f) ++ ([h (nth ws p), nth ws (p + 1), nth ws (p + 2)] ++ slotsO h ws p)) := by show _ = _; rw [hFS.out, if_pos hfp, laidO_snoc, thingO_eq]
            clear hfp
            generalize laidO h ws (pre.filter f) = X at *
            obtain ⟨AX, cX, rfl, -⟩ := HO.out.form2
            have e1 : IntKind.i64.wrap ((p : Int) + 1) = (p : Int) + 1 := IntWalk.i64_in _ (by omega)
            have e2 : IntKind.i64.wrap ((p : Int) + 2) = (p : Int) + 2 := IntWalk.i64_in _ (by omega)
            have e3 : ((p : Int) + 1).toNat = p + 1 := by omega
            have e4 : ((p : Int) + 2).toNat = p + 2 := by omega
            have e5 : (p : Int) + 1 < (ws.length : Int) := by omega
            have e6 : (p : Int) + 2 < (ws.length : Int) := by omega
            have e7 : 0 ≤ (p : Int) + 1 := by omega
            have e8 : 0 ≤ (p : Int) + 2 := by omega
            have hl9 : X.length + 3 ≤ 1000000000 := by omega
            have n11 : p + 1 < ws.length := by omega
            have n12 : p + 2 < ws.length := by omega
            go_wp2_with (go_at_call 118; refine (HNOW.out _ _ HCF.out HBR.out).mono ?_; rintro e w' ⟨rfl, rfl⟩)
            have hO9 : Own ((wr.alloc (.cells #[.int .i64 (h (nth ws p)), .int .i64 (nth ws (p + 1)), .int .i64 (nth ws (p + 2))] 3)).drew) F (.slice AX X.length cX) X := HO.out.alloc _
            have hJ9 : Ints ((wr.alloc (.cells #[.int .i64 (h (nth ws p)), .int .i64 (nth ws (p + 1)), .int .i64 (nth ws (p + 2))] 3)).drew) (some ⟨wr.heap.size, 0, none⟩) [h (nth ws p), nth ws (p + 1), nth ws (p + 2)] := ints_new wr _
            have hbs : Below F wo ((wr.alloc (.cells #[.int .i64 (h (nth ws p)), .int .i64 (nth ws (p + 1)), .int .i64 (nth ws (p + 2))] 3)).drew) := (HBR.out.alloc hFw _).drew
            have hz9 : F ≤ ((wr.alloc (.cells #[.int .i64 (h (nth ws p)), .int .i64 (nth ws (p + 1)), .int .i64 (nth ws (p + 2))] 3)).drew).heap.size := by simp; omega
            have HO9 := Lib.hid hO9; have HJ9 := Lib.hid hJ9; have HBS := Lib.hid hbs
            clear hO9 hJ9 hbs
            go_region_held3 (fun w' => w'.cell? ⟨b, o + (p + 1), none⟩ = some (.int .i64 (nth ws (p + 1))) ∧ w'.cell? ⟨b, o + (p + 2), none⟩ = some (.int .i64 (nth ws (p + 2))))
              (first | go_keep | exact hS3)
              (first
                | (refine step_joinN rfl _ _ rfl F (.slice AX X.length cX) X rfl HO9.out (some ⟨_, 0, none⟩) 3 [h (nth ws p), nth ws (p + 1), nth ws (p + 2)] rfl HJ9.out hl9 hz9 ?_; intro A3 m3 c3 w3 hown3 hgr3; have hb3 : Below F wo w3 := HBS.out.grown hgr3 hz9 (fun q hq => (HO9.out.lt q hq).1); have hS3 : w3.cell? ⟨b, o + (p + 1), none⟩ = some (.int .i64 (nth ws (p + 1))) ∧ w3.cell? ⟨b, o + (p + 2), none⟩ = some (.int .i64 (nth ws (p + 2))) := ⟨HROW2.out _ hb3 (p + 1) n11, HROW2.out _ hb3 (p + 2) n12⟩))
            clear e1 e2 e3 e4 e5 e6 e7 e8 hS3 HO9 HJ9 HBS hz9 hc0 hr0 hr1 hr2
            have HO3' := Lib.hid hown3; have HB3' := Lib.hid hb3
            have hsz3 : F ≤ w3.heap.size := by have := hgr3.size; simp at this; omega
            clear hown3 hgr3 hb3 HBR HO
            have hsl : (slotsO h ws p).length = slotsN ws p := slotsO_len HBAD.out
            have HSL := Lib.hid hsl
            clear hsl
            go_wp2_with fail
            go_loopw [11, 14] (fun v i u => ∃ k : Nat, i = .int .i64 ((p + 3 + k : Nat) : Int) ∧ k ≤ slotsN ws p ∧ Below F wo u ∧ Own u F v (X ++ ([h (nth ws p), nth ws (p + 1), nth ws (p + 2)] ++ (slotsO h ws p).take k))) (fun _ i _ => ws.length + 1 - (intOf i).toNat)
            case atStart => exact ⟨0, by go_num, Nat.zero_le _, HB3'.out, HO3'.out⟩
            case round =>
              obtain ⟨k, rfl, hk, hbr, hown⟩ := hrel
              have hR := HROW2.out _ hbr
              have hFu : F ≤ wr.heap.size := by have := hbr.size; have := HFE.out; omega
              have HBR := Lib.hid hbr; have HO := Lib.hid hown
              clear hbr hown
              have hr2 := hR (p + 2) (by omega)
              by_cases hks : k < slotsN ws p
              · have hrk := hR (p + 3 + k) (by omega)
                have hTK := Lib.hid (take_slot (xs := slotsO h ws p) (k := k) (by have := HSL.out; omega))
                have hNS := Lib.hid (slotsO_nth (h := h) HBAD.out hks)
                have hly : (X ++ ([h (nth ws p), nth ws (p + 1), nth ws (p + 2)] ++ (slotsO h ws p).take k)).length ≤ 1000000000 := by
                  have := HSL.out
                  simp only [List.length_append, List.length_take, List.length_cons, List.length_nil]; omega
                obtain ⟨t1, t2⟩ := HW.out (p + 3 + k)
                clear hR
                by_cases hf1 : formOf ws p = 1
                · have hm4 : nth ws (p + 2) % 4 = 1 := hf1
                  have hE2 : Hid (nth (slotsO h ws p) k = nth ws (p + 3 + k)) := by show _ = _; rw [hNS.out, if_pos hf1]
                  clear hf1
                  have hz6 : F ≤ (wr.alloc (.cells #[.int .i64 (nth ws (p + 3 + k))] 3)).heap.size := by rw [World.size_alloc]; omega
                  go_wp2_with (at_builtin; refine wpList_pushN rfl _ _ rfl F _ _ rfl (HO.out.alloc _) wr.heap.size 1 (nth ws (p + 3 + k)) rfl (cell_new wr _ _ _ 0) hly hz6 ?_; intro g6 n6 cap6 w6 hown6 hg6 hgr6; have HO6 := Lib.hid hown6; have HB6 := Lib.hid ((HBR.out.alloc hFu _).grown hgr6 hz6 (fun q hq => (HO.out.lt q hq).1)); clear hown6 hgr6)
                  go_roundw
                  case rel => exact ⟨k + 1, by go_num, by omega, HB6.out, by rw [hTK.out, hE2.out]; have h8 := HO6.out; simp only [List.append_assoc] at h8 ⊢; exact h8⟩
                  case measure => simp [intOf]; omega
                · have hm4 : ¬ nth ws (p + 2) % 4 = 1 := hf1
                  have hE2 : Hid (nth (slotsO h ws p) k = h (nth ws (p + 3 + k))) := by show _ = _; rw [hNS.out, if_neg hf1]
                  have hcf := slot_fits HOK.out HPM.out hf1 hks
                  have HCF2 := Lib.hid hcf
                  clear hf1 hcf
                  have hz6 : F ≤ (wr.alloc (.cells #[.int .i64 (h (nth ws (p + 3 + k)))] 3)).heap.size := by rw [World.size_alloc]; omega
                  go_wp2_with (first
                    | (go_at_call 118; refine (HNOW.out _ _ HCF2.out HBR.out).mono ?_; rintro e w' ⟨rfl, rfl⟩)
                    | (at_builtin; refine wpList_pushN rfl _ _ rfl F _ _ rfl (HO.out.alloc _) wr.heap.size 1 (h (nth ws (p + 3 + k))) rfl (cell_new wr _ _ _ 0) hly hz6 ?_; intro g6 n6 cap6 w6 hown6 hg6 hgr6; have HO6 := Lib.hid hown6; have HB6 := Lib.hid ((HBR.out.alloc hFu _).grown hgr6 hz6 (fun q hq => (HO.out.lt q hq).1)); clear hown6 hgr6))
                  go_roundw
                  case rel => exact ⟨k + 1, by go_num, by omega, HB6.out, by rw [hTK.out, hE2.out]; have h8 := HO6.out; simp only [List.append_assoc] at h8 ⊢; exact h8⟩
                  case measure => simp [intOf]; omega
              · obtain rfl : k = slotsN ws p := by omega
                have hOE := HO.out
                rw [show (slotsO h ws p).take (slotsN ws p) = slotsO h ws p from by rw [← HSL.out, List.take_length], ← hE.out] at hOE
                have HOE := Lib.hid hOE
                clear hR hOE
                go_wp2_with fail
                go_roundw
                case rel => exact ⟨nxt ws p, pre ++ [p], by rw [hcast.out], by omega, by omega, HNX.out, HPL2.out, HBR.out, HOE.out⟩
                case measure => simp [intOf]; omega
        · have hpe : places ws = pre := by rw [HPL.out, plFrom_end (by omega), List.append_nil]
          rw [← hpe, HORDG.out] at HO
          clear hpe hS hR
          have hBr := HBW2.out _ HBR.out
          have HBIN := Lib.hid hBr
          clear hBr
          obtain ⟨wl, rfl⟩ : ∃ x, x = wr := ⟨_, rfl⟩
          have HOL := HO; have HBL := HBR
          clear HO HBR
          obtain ⟨AX, cX, rfl, -⟩ := HOL.out.form2
          go_wp2_with fail
          go_loopw [15, 16] (fun v i u => ∃ j : Nat, i = .int .i64 j ∧ j ≤ rs.length ∧ Below wl.heap.size wl u ∧ Own u wl.heap.size v ((rs.take j).map h)) (fun _ i _ => rs.length - (intOf i).toNat)
          case atStart => exact ⟨0, rfl, Nat.zero_le _, Below.refl _ _, Own.nil _ _⟩
          case round =>
            obtain ⟨j, rfl, hj, hb5, hown5⟩ := hrel
            have HB5 := Lib.hid hb5; have HO5 := Lib.hid hown5
            have hws : wl.heap.size ≤ wr.heap.size := hb5.size
            have hbr5 : Below F wo wr := HBL.out.trans (hb5.mono hFw)
            have HBR5 := Lib.hid hbr5
            clear hb5 hown5 hbr5
            by_cases hjl : j < rs.length
            · obtain ⟨b', o', rfl, hb', hrow'⟩ := HBIN.out (by omega)
              have hcell := (hrow'.below HB5.out hb') j hjl
              have hfj := HFIT.out (nth rs j) (by rw [nth_eq hjl]; exact List.getElem_mem _)
              have HFJ := Lib.hid hfj
              clear hrow' hfj
              have hly : ((rs.take j).map h).length ≤ 1000000000 := by simp; omega
              have hz6 : wl.heap.size ≤ (wr.alloc (.cells #[.int .i64 (h (nth rs j))] 3)).heap.size := by rw [World.size_alloc]; omega
              go_wp2_with (first
                | (go_at_call 118; refine (HNOW.out _ _ HFJ.out HBR5.out).mono ?_; rintro e w' ⟨rfl, rfl⟩)
                | (at_builtin; refine wpList_pushN rfl _ _ rfl wl.heap.size _ ((rs.take j).map h) rfl (HO5.out.alloc _) wr.heap.size 1 (h (nth rs j)) rfl (cell_new wr _ _ _ 0) hly hz6 ?_; intro g6 n6 cap6 w6 hown6 hg6 hgr6; have HO6 := Lib.hid hown6; have HB6 := Lib.hid ((HB5.out.alloc hws _).grown hgr6 hz6 (fun q hq => (HO5.out.lt q hq).1)); clear hown6 hgr6))
              go_roundw
              case rel =>
                refine ⟨j + 1, by go_num, by omega, HB6.out, ?_⟩
                have h8 := HO6.out
                rw [List.take_succ_eq_append_getElem hjl, List.map_append, List.map_singleton, ← nth_eq hjl]
                exact h8
              case measure => simp [intOf]; omega
            · obtain rfl : j = rs.length := by omega
              have hsz15 : G2 ≤ F := by have := HWO2.out.size; have := HFE.out; have := HTO.out.block; omega
              have hw15 : Below w1.heap.size w1 wr := HB2.out.trans ((HWO2.out.trans (HBR5.out.mono hsz15)).mono hsz2)
              obtain ⟨z1, z2, z3⟩ := (HR0.out.below hw15 HR0.out.lt).f1
              have HW15 := Lib.hid hw15
              have hO5 := HO5.out
              rw [List.take_length] at hO5
              obtain ⟨A5, c5, rfl, -⟩ := hO5.form2
              have HO5' := Lib.hid hO5
              have HOL5 := Lib.hid (HOL.out.below HB5.out (fun q hq => (HOL.out.lt q hq).2))
              have hl1 : w.heap.size + 1 < w1.heap.size := by have := hsz.out; omega
              have hl2 : w1.heap.size ≤ F := by omega
              have hl3 : F ≤ wl.heap.size := by omega
              clear hw15 hO5
              go_wp2_with fail
              refine bodyPost_ret (v := .tuple #[.agg #[.slice AX (laidO h ws ORD).length cX], .slice A5 (rs.map h).length c5]) (by simp [results, Try.results64, go_sem, z1]) rfl ⟨f, HT.out, ?_⟩
              rw [HORDG.out]
              unfold arrW arrR
              rw [HHH.out]
              refine ⟨(HX0.out.trans (HW15.out.mono HX0.out.size)).setCell (by dsimp only; omega) _, AX, cX, A5, c5, rfl, ?_, ?_⟩
              · exact (HOL5.out.mono (by omega)).setCell _ (fun e => by have := (HOL5.out.lt _ e).1; dsimp only at this; omega) _
              · exact (HO5'.out.mono (by omega)).setCell _ (fun e => by have := (HO5'.out.lt _ e).1; dsimp only at this; omega) _
end Go.Proofs.Ytjpppdacamhhfaa
