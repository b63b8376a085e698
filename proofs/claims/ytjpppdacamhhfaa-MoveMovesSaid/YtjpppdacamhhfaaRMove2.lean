/- The document's Move computes the moved words. Conditions: a heap that may be, roots that fit. -/
import Derived.Test.YtjpppdacamhhfaaRMove
import Derived.Test.YtjpppdacamhhfaaMSpec3
import Derived.StillTailTactics
namespace Go.Proofs.Ytjpppdacamhhfaa
open Go.RowKit
set_option linter.unusedVariables false

def RMoveOut (ws rs : List Int) (w : World) (e : Ending) (w' : World) : Prop :=
  ∃ k, (chen ws rs k).length = k ∧ TwoOut (arrW ws (chen ws rs k)) (arrR ws rs (chen ws rs k)) w e w'
theorem RM.put {w : World} {F GT cT : Nat} {ws : List Int} {ord : List Nat} {xs : List Int} {G n c : Nat} (h : RM w F GT cT ws ord xs (.slice (some ⟨G, 0, none⟩) n c)) (j : Nat) (x : Int) :
    RM (w.setCell ⟨G, j, none⟩ (.int .i64 x)) F GT cT ws ord (xs.set j x) (.slice (some ⟨G, 0, none⟩) n c) :=
  ⟨h.tos.setCell ⟨G, j, none⟩ (fun e => by cases e; exact h.far _ rfl rfl) _, h.out.put j x, by rw [List.length_set]; exact h.len, h.far, by simpa [World.setCell] using h.size⟩
theorem RM.form {w : World} {F GT cT : Nat} {ws : List Int} {ord : List Nat} {xs : List Int} {v : Value} (h : RM w F GT cT ws ord xs v) : ∃ G n c, v = .slice (some ⟨G, 0, none⟩) n c ∧ n = xs.length ∧ n ≤ c := by
  have hl := h.len
  have hg := endO_ge ws ord 2
  obtain ⟨A, n, c, hv, hn, hc, -⟩ := h.out.form3
  subst hv
  obtain ⟨G, rfl, -, -, -, -⟩ := h.out.some_ (by omega)
  exact ⟨G, n, c, rfl, hn, hc⟩
theorem below_copied {F : Nat} {w1 w w' : World} {v : Value} {xs : List Int} {cT : Nat} {ws : List Int} {ord : List Nat} (h : Below F w1 w) (hM : RM w F F cT ws ord xs v) (ht : Turned w w' (fun k => k = F ∨ v.ownBlock = some k)) : Below F w1 w' :=
  h.trans (ht.below hM.size fun k hk hc => by
    rcases hc with hc | hc
    · omega
    · have := (hM.out.lt k hc).1; omega)

set_option maxRecDepth 100000 in
set_option maxHeartbeats 4000000 in
theorem rmove_any (ws rs : List Int) (b o c : Nat) (B : Option Addr) (d : Nat) (w : World) (hr : Row w b o ws) (hlt : b < w.heap.size) (hok : OkH ws) (hw : I64 ws) (hcap : ws.length ≤ c)
    (hB : Ints w B rs) (hri : I64 rs) (hrl : rs.length ≤ 1000000) (hfit : ∀ o ∈ rs, fitsB ws o = true) :
    Calls Try.prog 56 #[.agg #[.slice (some ⟨b, o, none⟩) ws.length c], .slice B rs.length d] w (RMoveOut ws rs w) := by
  have hx0 : Below w.heap.size w ((w.alloc (.cells #[.slice (some ⟨b, o, none⟩) ws.length c] 33)).alloc (.cells #[.slice none 0 0] 33)) := ((Below.refl _ _).alloc (Nat.le_refl _) _).alloc (by simp) _
  have hh0 : Blk ((w.alloc (.cells #[.slice (some ⟨b, o, none⟩) ws.length c] 33)).alloc (.cells #[.slice none 0 0] 33)) w.heap.size 33 #[.slice (some ⟨b, o, none⟩) ws.length c] := (Blk.new _ _ _).alloc _
  have hr0 : Blk ((w.alloc (.cells #[.slice (some ⟨b, o, none⟩) ws.length c] 33)).alloc (.cells #[.slice none 0 0] 33)) (w.heap.size + 1) 33 #[.slice none 0 0] := by
    have := Blk.new (w.alloc (.cells #[.slice (some ⟨b, o, none⟩) ws.length c] 33)) 33 #[.slice none 0 0]
    simpa using this
  obtain ⟨q1, q2⟩ : 2 ≤ ws.length ∧ ws.length ≤ 2000 := ⟨hok.two, hok.most⟩
  have HR := Lib.hid (hr.below hx0 hlt); have HX0 := Lib.hid hx0; have HH0 := Lib.hid hh0; have HR0 := Lib.hid hr0
  have HB := Lib.hid (hB.below hx0)
  have HW := Lib.hid hw; have HOK := Lib.hid hok; have HRI := Lib.hid hri; have HFIT := Lib.hid hfit
  clear hr hx0 hh0 hr0 hB hw hok hri hfit
  have hsz : Hid (w.heap.size + 1 + 1 = ((w.alloc (.cells #[.slice (some ⟨b, o, none⟩) ws.length c] 33)).alloc (.cells #[.slice none 0 0] 33)).heap.size) := by show _ = _; simp
  obtain ⟨x1, x2, x3⟩ := HH0.out.f1
  generalize hw1 : ((w.alloc (.cells #[.slice (some ⟨b, o, none⟩) ws.length c] 33)).alloc (.cells #[.slice none 0 0] 33)) = w1 at HR HX0 HR0 HB hsz
  have HW1 := Lib.hid hw1; clear hw1 HH0
  go_enter Try.func56, Try.ntmps56
  go_wp2_with (at_make; rw [HW1.out]; refine wpList_zeros rfl _ _ rfl w1.heap.size ws.length rfl rfl (by omega) (Nat.le_refl _) ?_; intro w3 hown3 hgr3; have HO3 := Lib.hid hown3; have HG3 := Lib.hid hgr3; clear hown3 hgr3)
  clear x1 x2 x3 HW1
  have hbl : b < w1.heap.size := by have := hsz.out; omega
  have hb13 : Below w1.heap.size w1 w3 := (Below.refl _ _).grown HG3.out (Nat.le_refl _) (fun q hq => by cases hq)
  rw [← tosL_nil ws ws.length] at HO3
  have hsz3 : w1.heap.size ≤ w3.heap.size := hb13.size
  have HB13 := Lib.hid hb13
  clear hb13 HG3
  have hrowW : ∀ W, Below w1.heap.size w1 W → Row W b o ws := fun W hb => HR.out.below hb hbl
  have hBW : ∀ W, Below w1.heap.size w1 W → Ints W B rs := fun W hb => HB.out.below hb
  have hR := hrowW _ HB13.out
  have hr0 := hR 0 (by omega)
  have hr1 := hR 1 (by omega)
  rw [Nat.add_zero] at hr0
  have HROW := Lib.hid hrowW; have HBW := Lib.hid hBW
  clear hrowW hBW hR HR HB
  have z1 : 0 < ws.length := by omega
  have z2 : 1 < ws.length := by omega
  have z3 : (1 : Int) < (ws.length : Int) := by omega
  have t1 : 0 < c := by omega
  have t2 : 1 < c := by omega
  go_wp2_with fail
  go_still_tail 6, (by kernel_rfl)
  change wpList _ _ _ _ _ (World.drew w3)
  have hlo : Own ((w3.alloc (.cells #[.int .i64 (nth ws 0), .int .i64 (nth ws 1)] 3)).drew) w1.heap.size (.slice (some ⟨w3.heap.size, 0, none⟩) 2 2) [nth ws 0, nth ws 1] := Own.lit w3 w1.heap.size [nth ws 0, nth ws 1] hsz3 (by simp)
  have hbo : Below w1.heap.size w1 ((w3.alloc (.cells #[.int .i64 (nth ws 0), .int .i64 (nth ws 1)] 3)).drew) := (HB13.out.alloc hsz3 _).drew
  have hto : Own ((w3.alloc (.cells #[.int .i64 (nth ws 0), .int .i64 (nth ws 1)] 3)).drew) w1.heap.size (.slice (some ⟨w1.heap.size, 0, none⟩) ws.length ws.length) (tosL ws [] ws.length) := HO3.out.alloc _
  have hfar : ∀ k, (Value.slice (some ⟨w3.heap.size, 0, none⟩) 2 2).ownBlock = some k → k ≠ w1.heap.size := by
    intro k e
    have h1 := HO3.out.block.2
    have h2 : w3.heap.size = k := by simpa [Value.ownBlock] using e
    omega
  have hsz9 : w1.heap.size ≤ ((w3.alloc (.cells #[.int .i64 (nth ws 0), .int .i64 (nth ws 1)] 3)).drew).heap.size := by simp; omega
  have hrm : RM ((w3.alloc (.cells #[.int .i64 (nth ws 0), .int .i64 (nth ws 1)] 3)).drew) w1.heap.size w1.heap.size ws.length ws [] [nth ws 0, nth ws 1] (.slice (some ⟨w3.heap.size, 0, none⟩) 2 2) := ⟨hto, hlo, rfl, hfar, hsz9⟩
  have HRM := Lib.hid hrm; have HBO := Lib.hid hbo
  clear hlo hbo hto hrm hfar hsz9 hr0 hr1 t1 t2
  go_wp2_with fail
  generalize ((w3.alloc (.cells #[.int .i64 (nth ws 0), .int .i64 (nth ws 1)] 3)).drew) = w5 at *
  clear z1 z2 z3 HO3 HB13 hsz3
  generalize hF : w1.heap.size = F at *
  have HFE := Lib.hid hF; clear hF
  go_loopw [8, 10] (fun v i wr => ∃ (j : Nat) (ord : List Nat) (xs : List Int), i = .int .i64 j ∧ j ≤ rs.length ∧ ord = visits [] (rs.take j) ∧ Ordr ws ord ∧ PartW ws ord (fun _ _ => False) xs ∧ RM wr F F ws.length ws ord xs v ∧ Below F w1 wr) (fun _ i _ => rs.length - (intOf i).toNat)
  case atStart => exact ⟨0, [], _, rfl, Nat.zero_le _, rfl, Ordr.nil ws, PartW.start ws, HRM.out, HBO.out⟩
  case round =>
    obtain ⟨j, ord, xs, rfl, hj, hord, hod, hpw, hm, hbw⟩ := hrel
    have HORD := Lib.hid hord; have HOD := Lib.hid hod; have HPW := Lib.hid hpw; have HM := Lib.hid hm; have HBR := Lib.hid hbw
    clear hord hod hpw hm hbw
    by_cases hjl : j < rs.length
    · obtain ⟨b', o', rfl, hb', hrow'⟩ := HBW.out _ HBR.out (by omega)
      have hcell := hrow' j hjl
      have hfj := HFIT.out (nth rs j) (by rw [nth_eq hjl]; exact List.getElem_mem _)
      have HFJ := Lib.hid hfj
      have hTK := Lib.hid (take_slot hjl)
      have hbwr : b < wr.heap.size := by have := HM.out.size; omega
      have hrw := HROW.out _ HBR.out
      have HRW := Lib.hid hrw
      clear hrow' hfj hrw
      go_wp2_with fail
      refine (copy_any ws b o c F F ws.length ord xs _ (nth rs j) wr HRW.out hbwr (fun W hb => HROW.out W (HBR.out.trans hb)) hcap HM.out HOK.out HW.out HOD.out HFJ.out).mono ?_
      rintro e w6 ⟨v', rfl, hm6, ht6⟩
      have hb6 := below_copied HBR.out HM.out ht6
      have HM6 := Lib.hid hm6; have HB6 := Lib.hid hb6
      have HOD6 := Lib.hid (HOD.out.visit HFJ.out)
      have HPW6 := Lib.hid (part_visit0 HPW.out HFJ.out)
      clear hm6 ht6 hb6
      go_wp2_with fail
      go_roundw
      case rel =>
        refine ⟨j + 1, visit ord (nth rs j), _, by go_num, by omega, ?_, HOD6.out, HPW6.out, HM6.out, HB6.out⟩
        rw [hTK.out, visits_snoc, HORD.out]
      case measure => simp [intOf]; omega
    · obtain rfl : j = rs.length := by omega
      rw [List.take_length] at HORD
      have hch : ord = chen ws rs 0 := HORD.out
      have HCH := Lib.hid hch
      clear hch HORD HRM HBO
      go_wp2_with fail
      go_loopw [8, 11] (fun v i wr => ∃ (k : Nat) (ord : List Nat) (xs : List Int), i = .int .i64 (endO ws (ord.take k) 2 : Nat) ∧ k ≤ ord.length ∧ ord = chen ws rs k ∧ Ordr ws ord ∧ PartW ws ord (fun _ _ => False) xs ∧ RM wr F F ws.length ws ord xs v ∧ Below F w1 wr) (fun _ i _ => 3000 - (intOf i).toNat)
      case atStart => exact ⟨0, ord, xs, rfl, Nat.zero_le _, HCH.out, HOD.out, HPW.out, HM.out, HBR.out⟩
      case round =>
        clear HCH HOD HPW HM HBR ord xs
        obtain ⟨k, ord, xs, rfl, hk, hch, hod, hpw, hm, hbw⟩ := hrel
        have hlenx : xs.length = endO ws ord 2 := hm.len
        have hes := endO_small HOK.out hod.nodup hod.pl
        have hge := endO_ge ws ord 2
        obtain ⟨G, nG, cG, hvG, hGn, hGc⟩ := hm.form
        subst hvG
        have hlt : k < ord.length → endO ws (ord.take k) 2 < endO ws ord 2 ∧ endO ws (ord.take k) 2 + szT ws (ord.getD k 0) ≤ endO ws ord 2 := fun hkl => by
          have h1 := toO_at (ws := ws) hod.nodup hkl
          have h2 := offO_in ws ord 2 (List.getElem_mem hkl)
          rw [getD_el hkl]
          have h3 : toO ws ord ord[k] = offO ws ord 2 ord[k] := rfl
          have h4 : szT ws ord[k] = 3 + slotsN ws ord[k] := rfl
          omega
        have HLT := Lib.hid hlt; have HLX := Lib.hid hlenx; have HGN := Lib.hid hGn
        have HCH := Lib.hid hch; have HOD := Lib.hid hod; have HPW := Lib.hid hpw; have HM := Lib.hid hm; have HBR := Lib.hid hbw
        have hbwr : b < wr.heap.size := by have := hm.size; omega
        clear hch hod hpw hm hbw hlt hlenx hGn
        by_cases hkl : k < ord.length
        · obtain ⟨hl1, hl2⟩ := HLT.out hkl
          have hto := toO_at (ws := ws) HOD.out.nodup hkl
          rw [← getD_el hkl] at hto
          have hpm : ord.getD k 0 ∈ ord := by rw [getD_el hkl]; exact List.getElem_mem hkl
          obtain ⟨ht1, ht2, ht3⟩ := hto
          have hch1 : chen ws rs (k + 1) = visits ord (holdsL ws (ord.getD k 0)) := by rw [chen, ← HCH.out, if_pos hkl]
          have HCH1 := Lib.hid hch1
          clear hch1
          generalize ord.getD k 0 = p at *
          have HT1 := Lib.hid ht1; have HT3 := Lib.hid ht3; have HPM := Lib.hid hpm
          have hpl := HOD.out.pl p hpm
          have HPL := Lib.hid hpl
          obtain ⟨p2, pl, pb⟩ := places_mem hpl
          obtain ⟨m1, m2, m3, m4, m5⟩ := not_bad pb
          have HBAD := Lib.hid pb
          have hszp : szT ws p = 3 + slotsN ws p := rfl
          have hsd : ((slotsN ws p : Nat) : Int) = nth ws (p + 2) / 4 := by have : slotsN ws p = (nth ws (p + 2) / 4).toNat := rfl; omega
          have HSD := Lib.hid hsd
          have hcl := HM.out.out.cell (endO ws (ord.take k) 2) (by have := HLX.out; omega)
          have hraw := part_raw0 HPW.out (i := 0) hpm (by omega)
          rw [ht1, Nat.add_zero, Nat.add_zero] at hraw
          rw [hraw] at hcl
          have hcf := class_fits HOK.out hpl
          have HCF := Lib.hid hcf
          obtain ⟨f1, f2⟩ := fits_bd hcf
          have g1 : (endO ws (ord.take k) 2 : Int) < (nG : Nat) := by have := HLX.out; have := HGN.out; omega
          clear ht1 ht2 ht3 hpm hpl pb hsd hraw hcf
          generalize hATe : endO ws (ord.take k) 2 = AT at *
          have HATE := Lib.hid hATe
          clear hATe
          have HRW := Lib.hid (HROW.out _ HBR.out)
          go_wp2_with fail
          refine (copy_any ws b o c F F ws.length ord xs _ (nth ws p) wr HRW.out hbwr (fun W hb => HROW.out W (HBR.out.trans hb)) hcap HM.out HOK.out HW.out HOD.out HCF.out).mono ?_
          rintro e w6 ⟨v1, rfl, hm6, ht6⟩
          have hb6 := below_copied HBR.out HM.out ht6
          have HM6 := Lib.hid hm6; have HB6 := Lib.hid hb6
          have HOD6 := Lib.hid (HOD.out.visit HCF.out)
          have HPW6 := Lib.hid (part_visit0 HPW.out HCF.out)
          have hp6 : p ∈ visit ord (nth ws p) := visit_keep HPM.out
          have hto6 : toO ws (visit ord (nth ws p)) p = AT := (toO_visit HPM.out _).trans HT1.out
          have hpre6 : ord <+: visit ord (nth ws p) := visit_pre ord _
          have hchx : visits ord (holdsL ws p) = visits (visit ord (nth ws p)) (if formOf ws p = 0 then slotsL ws p else []) := rfl
          have HCHX := Lib.hid (HCH1.out.trans hchx)
          have HP6 := Lib.hid hp6; have HTO6 := Lib.hid hto6; have HPRE6 := Lib.hid hpre6
          clear hm6 ht6 hb6 hp6 hto6 hpre6 hchx hcl g1 HCH1
          generalize visit ord (nth ws p) = ord1 at *
          generalize pushL ws ord (nth ws p) xs = xs1 at *
          have HSLEN := Lib.hid (slotsL_len HBAD.out)
          obtain ⟨u1, u2⟩ := HW.out (p + 2)
          go_wp2_with fail
          go_loopw [8, 12] (fun v i wr => ∃ (j : Nat) (ord2 : List Nat) (xs2 : List Int), i = .int .i64 ((AT + 3 + j : Nat) : Int) ∧ j ≤ slotsN ws p ∧ ord2 = visits ord1 ((slotsL ws p).take j) ∧ (formOf ws p ≠ 0 → j = 0) ∧ Ordr ws ord2 ∧ PartW ws ord2 (fun _ _ => False) xs2 ∧ RM wr F F ws.length ws ord2 xs2 v ∧ Below F w1 wr) (fun _ i _ => 3000 - (intOf i).toNat)
          case atStart => exact ⟨0, ord1, xs1, by go_num, Nat.zero_le _, rfl, fun _ => rfl, HOD6.out, HPW6.out, HM6.out, HB6.out⟩
          case round =>
            obtain ⟨j, ord2, xs2, rfl, hj, hord2, hform, hod, hpw, hm, hbw⟩ := hrel
            have hpre2 : ord1 <+: ord2 := by rw [hord2]; exact visits_pre _ _
            have hp9 : p ∈ ord2 := hpre2.subset HP6.out
            have hto9 : toO ws ord2 p = AT := by rw [hord2, toO_visits _ HP6.out]; exact HTO6.out
            have hpre9 : ord <+: ord2 := HPRE6.out.trans hpre2
            have hes9 := endO_small HOK.out hod.nodup hod.pl
            have hlen9 := hm.len
            obtain ⟨G2, n2, c2, hv2, hn2, hc2⟩ := hm.form
            subst hv2
            have hin3 : AT + szT ws p ≤ n2 := by
              have h1 := offO_in ws ord2 2 hp9
              have h2 : offO ws ord2 2 p = AT := hto9
              omega
            have hn2b : n2 ≤ 2000 := by omega
            have hhc := hm.out.cell (AT + 2) (by omega)
            have hhr := part_raw0 hpw (i := 2) hp9 (by omega)
            rw [hto9] at hhr
            rw [hhr] at hhc
            have HN2 := Lib.hid hn2
            have HPRE9 := Lib.hid hpre9; have HP9 := Lib.hid hp9; have HTO9 := Lib.hid hto9; have HORD2 := Lib.hid hord2; have HFORM := Lib.hid hform
            have HOD9 := Lib.hid hod; have HPW9 := Lib.hid hpw; have HM9 := Lib.hid hm; have HBR9 := Lib.hid hbw
            have hbwr9 : b < wr.heap.size := by have := hm.size; omega
            clear hpre2 hp9 hto9 hpre9 hord2 hform hod hpw hm hbw hhr hn2 hlen9 hes9
            by_cases hgo : j < slotsN ws p ∧ formOf ws p = 0
            · obtain ⟨hjl, hf0⟩ := hgo
              have hjl' : (AT : Int) + 3 + j < (AT : Int) + 3 + nth ws (p + 2) / 4 := by have := HSD.out; omega
              have hm0 : (nth ws (p + 2) % 4 == 0) = true := by have h9 : nth ws (p + 2) % 4 = 0 := hf0; simpa using h9
              have hcl9 := HM9.out.out.cell (AT + 3 + j) (by have := HN2.out; omega)
              have hraw := part_raw0 HPW9.out (i := 3 + j) HP9.out (by omega)
              rw [HTO9.out, ← Nat.add_assoc, ← Nat.add_assoc] at hraw
              rw [hraw] at hcl9
              have hcf := slot_fits HOK.out HPL.out (by rw [hf0]; decide) hjl
              have HCF9 := Lib.hid hcf
              obtain ⟨v11, v12⟩ := fits_bd hcf
              have g1 : (AT : Int) + 3 + j < (n2 : Nat) := by omega
              have hTK := Lib.hid (take_slot (xs := slotsL ws p) (k := j) (by have := HSLEN.out; omega))
              have hNS := Lib.hid (slotsL_nth HBAD.out hjl)
              have HRW9 := Lib.hid (HROW.out _ HBR9.out)
              have HF0 := Lib.hid hf0
              clear hraw hcf hf0
              go_wp2_with fail
              refine (copy_any ws b o c F F ws.length ord2 xs2 _ (nth ws (p + 3 + j)) wr HRW9.out hbwr9 (fun W hb => HROW.out W (HBR9.out.trans hb)) hcap HM9.out HOK.out HW.out HOD9.out HCF9.out).mono ?_
              rintro e w10 ⟨v3, rfl, hm10, ht10⟩
              have HM10 := Lib.hid hm10
              have HB10 := Lib.hid (below_copied HBR9.out HM9.out ht10)
              have HOD10 := Lib.hid (HOD9.out.visit HCF9.out)
              have HPW10 := Lib.hid (part_visit0 HPW9.out HCF9.out)
              have hord10 : visit ord2 (nth ws (p + 3 + j)) = visits ord1 ((slotsL ws p).take (j + 1)) := by rw [hTK.out, visits_snoc, ← HORD2.out, hNS.out]
              have HORD10 := Lib.hid hord10
              clear hm10 ht10 hord10
              go_wp2_with fail
              go_roundw
              case rel => exact ⟨j + 1, _, _, by go_num, by omega, HORD10.out, fun h => absurd HF0.out h, HOD10.out, HPW10.out, HM10.out, HB10.out⟩
              case measure => simp [intOf]; omega
            · have hch9 : chen ws rs (k + 1) = ord2 := by
                rw [HCHX.out, HORD2.out]
                by_cases hf0 : formOf ws p = 0
                · have : j = slotsN ws p := by
                    have : ¬ j < slotsN ws p := fun h => hgo ⟨h, hf0⟩
                    omega
                  rw [if_pos hf0, this, ← HSLEN.out, List.take_length]
                · rw [if_neg hf0, HFORM.out hf0, List.take_zero]
              have hr1 : ord2.take (k + 1) = ord.take k ++ [p] := (pre_take HPRE9.out (by omega)).trans HT3.out
              have hr2 : endO ws (ord2.take (k + 1)) 2 = AT + szT ws p := by rw [hr1, endO_snoc, HATE.out]
              have hr3 : k + 1 ≤ ord2.length := by have := HPRE9.out.length_le; omega
              have HCH9 := Lib.hid hch9; have R2 := Lib.hid hr2; have R3 := Lib.hid hr3
              clear hch9 hr1 hr2 hr3
              by_cases hjl : j < slotsN ws p
              · have hjl' : (AT : Int) + 3 + j < (AT : Int) + 3 + nth ws (p + 2) / 4 := by have := HSD.out; omega
                have hm0 : (nth ws (p + 2) % 4 == 0) = false := by
                  have h9 : ¬ nth ws (p + 2) % 4 = 0 := fun h => hgo ⟨hjl, h⟩
                  simpa using h9
                clear hgo
                go_wp2_with fail
                go_roundw
                case rel => exact ⟨k + 1, ord2, xs2, by rw [R2.out]; have := HSD.out; congr 1; omega, R3.out, HCH9.out.symm, HOD9.out, HPW9.out, HM9.out, HBR9.out⟩
                case measure => simp [intOf]; have := HSD.out; omega
              · have hjl' : ¬ (AT : Int) + 3 + j < (AT : Int) + 3 + nth ws (p + 2) / 4 := by have := HSD.out; omega
                clear hgo
                go_wp2_with fail
                go_roundw
                case rel => exact ⟨k + 1, ord2, xs2, by rw [R2.out]; have := HSD.out; congr 1; omega, R3.out, HCH9.out.symm, HOD9.out, HPW9.out, HM9.out, HBR9.out⟩
                case measure => simp [intOf]; have := HSD.out; omega
        · obtain rfl : k = ord.length := by omega
          rw [List.take_length]
          have hks : (chen ws rs ord.length).length = ord.length := by rw [← HCH.out]
          have HKS := Lib.hid hks
          have g1 : ¬ (endO ws ord 2 : Int) < (nG : Nat) := by have := HLX.out; have := HGN.out; omega
          clear hks
          have HT0 := Lib.hid (turn_start HPW.out 0)
          have HBND := Lib.hid (toO_small HOK.out HOD.out.nodup HOD.out.pl)
          generalize endO ws ord 2 = EN at g1 ⊢
          go_wp2_with fail
          clear g1
          have hORD : OrdOf ws rs ord := by
            have := chen_ord (ws := ws) (rs := rs) (k := ord.length) HKS.out
            rwa [← HCH.out] at this
          clear hge hes hORD
          go_loopw [13] (fun i wr => ∃ (k : Nat) (xs : List Int), i = .int .i64 (endO ws (ord.take k) 2 : Nat) ∧ k ≤ ord.length ∧ Turn ws ord (ord.take k) 0 0 xs ∧ RM wr F F ws.length ws ord xs (.slice (some ⟨G, 0, none⟩) nG cG) ∧ Below F w1 wr) (fun i _ => 3000 - (intOf i).toNat)
          case atStart => exact ⟨0, xs, rfl, Nat.zero_le _, HT0.out, HM.out, HBR.out⟩
          case round =>
            clear HT0 HM HBR HPW HLX HGN HLT hbwr hk xs
            obtain ⟨k, xs, rfl, hk, htn, hm, hbw⟩ := hrel
            have hlenx : xs.length = endO ws ord 2 := hm.len
            have hes := endO_small HOK.out HOD.out.nodup HOD.out.pl
            have hge := endO_ge ws ord 2
            have hGn : nG = xs.length := hm.out.len
            have hGF : F ≤ G := (hm.out.lt G rfl).1
            have hlt : k < ord.length → endO ws (ord.take k) 2 < endO ws ord 2 ∧ endO ws (ord.take k) 2 + szT ws (ord.getD k 0) ≤ endO ws ord 2 := fun hkl => by
              have h1 := toO_at (ws := ws) HOD.out.nodup hkl
              have h2 := offO_in ws ord 2 (List.getElem_mem hkl)
              rw [getD_el hkl]
              have h3 : toO ws ord ord[k] = offO ws ord 2 ord[k] := rfl
              have h4 : szT ws ord[k] = 3 + slotsN ws ord[k] := rfl
              omega
            have HLT := Lib.hid hlt; have HLX := Lib.hid hlenx; have HGN := Lib.hid hGn
            have HTN := Lib.hid htn; have HM := Lib.hid hm; have HBR := Lib.hid hbw
            clear htn hm hbw hlt hlenx hGn
            by_cases hkl : k < ord.length
            · obtain ⟨hl1, hl2⟩ := HLT.out hkl
              have hto := toO_at (ws := ws) HOD.out.nodup hkl
              rw [← getD_el hkl] at hto
              have hpm : ord.getD k 0 ∈ ord := by rw [getD_el hkl]; exact List.getElem_mem hkl
              obtain ⟨ht1, ht2, ht3⟩ := hto
              generalize ord.getD k 0 = p at *
              have HT1 := Lib.hid ht1; have HT3 := Lib.hid ht3; have HPM := Lib.hid hpm
              have hpl := HOD.out.pl p hpm
              have HPL := Lib.hid hpl
              obtain ⟨p2, pl, pb⟩ := places_mem hpl
              obtain ⟨m1, m2, m3, m4, m5⟩ := not_bad pb
              have HBAD := Lib.hid pb
              have hszp : szT ws p = 3 + slotsN ws p := rfl
              have hsd : ((slotsN ws p : Nat) : Int) = nth ws (p + 2) / 4 := by have : slotsN ws p = (nth ws (p + 2) / 4).toNat := rfl; omega
              have HSD := Lib.hid hsd
              have HTN1 := Lib.hid (HTN.out.other ht2)
              have hcl := HM.out.out.cell (endO ws (ord.take k) 2) (by have := HLX.out; omega)
              have hraw := HTN1.out.raw (i := 0) hpm (by omega) (Nat.le_refl _)
              rw [ht1, Nat.add_zero, Nat.add_zero] at hraw
              rw [hraw] at hcl
              have hcf := class_fits HOK.out hpl
              have HCF := Lib.hid hcf
              obtain ⟨f1, f2⟩ := fits_bd hcf
              have g1 : (endO ws (ord.take k) 2 : Int) < (nG : Nat) := by have := HLX.out; have := HGN.out; omega
              have hfz := HM.out.out.frz (endO ws (ord.take k) 2)
              have htp := HTN1.out.put (j := 0) hpm (by omega) (.inl rfl)
              rw [ht1, Nat.add_zero, Nat.add_zero] at htp
              have HTP := Lib.hid htp
              have HMP := Lib.hid (HM.out.put (endO ws (ord.take k) 2) (nowO (toO ws ord) (nth ws p)))
              have hnG : nG ≤ 2000 := by have := HLX.out; have := HGN.out; omega
              have hin : endO ws (ord.take k) 2 + szT ws p ≤ nG := by have := HLX.out; have := HGN.out; omega
              clear ht1 ht2 ht3 hpm hpl pb hsd hraw hcf htp
              generalize hATe : endO ws (ord.take k) 2 = AT at *
              have HATE := Lib.hid hATe
              clear hATe
              have HBP := Lib.hid (HBR.out.setCell (p := ⟨G, AT, none⟩) hGF (.int .i64 (nowO (toO ws ord) (nth ws p))))
              go_wp2_with (go_at_call 104; refine (rnow17_any ws ws ord HBND.out F F ws.length ws.length (nth ws p) wr HM.out.tos HCF.out (Nat.le_refl _)).mono ?_; rintro e w' ⟨rfl, rfl⟩)
              clear hcl hfz g1
              generalize (wr.setCell ⟨G, AT, none⟩ (.int .i64 (nowO (toO ws ord) (nth ws p)))) = w7 at *
              have HT3' := Lib.hid (HTP.out.pass (j' := 3) (by omega) (fun i h1 h2 h3 h4 => by rcases h4 with h4 | ⟨h4, _⟩ <;> omega))
              generalize (xs.set AT (nowO (toO ws ord) (nth ws p))) = xs1 at *
              obtain ⟨u1, u2⟩ := HW.out (p + 2)
              go_wp2_with fail
              go_loopw [14] (fun i u => ∃ (j : Nat) (xs2 : List Int), i = .int .i64 ((AT + 3 + j : Nat) : Int) ∧ j ≤ slotsN ws p ∧ (formOf ws p = 1 → j = 0) ∧ Turn ws ord (ord.take k) p (3 + j) xs2 ∧ RM u F F ws.length ws ord xs2 (.slice (some ⟨G, 0, none⟩) nG cG) ∧ Below F w1 u) (fun i _ => 3000 - (intOf i).toNat)
              case atStart => exact ⟨0, xs1, by go_num, Nat.zero_le _, fun _ => rfl, HT3'.out, HMP.out, HBP.out⟩
              case round =>
                obtain ⟨j, xs2, rfl, hj, hform, htn, hm, hbw⟩ := hrel
                have hlen2 : nG = xs2.length := hm.out.len
                have hhc := hm.out.cell (AT + 2) (by omega)
                have hhr := htn.head HPM.out
                rw [HT1.out] at hhr
                rw [hhr] at hhc
                have HN2 := Lib.hid hlen2
                have HFORM := Lib.hid hform; have HTN9 := Lib.hid htn; have HM9 := Lib.hid hm; have HBR9 := Lib.hid hbw
                clear hlen2 hform htn hm hbw hhr
                by_cases hgo : j < slotsN ws p ∧ formOf ws p ≠ 1
                · obtain ⟨hjl, hf0⟩ := hgo
                  have hjl' : (AT : Int) + 3 + j < (AT : Int) + 3 + nth ws (p + 2) / 4 := by have := HSD.out; omega
                  have hm0 : (nth ws (p + 2) % 4 != 1) = true := by have h9 : ¬ nth ws (p + 2) % 4 = 1 := hf0; simpa using h9
                  have hcl9 := HM9.out.out.cell (AT + 3 + j) (by have := HN2.out; omega)
                  have hraw := HTN9.out.raw (i := 3 + j) HPM.out (by omega) (Nat.le_refl _)
                  rw [HT1.out, ← Nat.add_assoc, ← Nat.add_assoc] at hraw
                  rw [hraw] at hcl9
                  have hcf := slot_fits HOK.out HPL.out hf0 hjl
                  have HCF9 := Lib.hid hcf
                  obtain ⟨v11, v12⟩ := fits_bd hcf
                  have g1 : (AT : Int) + 3 + j < (nG : Nat) := by omega
                  have hfz := HM9.out.out.frz (AT + 3 + j)
                  have htp := HTN9.out.put (j := 3 + j) HPM.out (by omega) (.inr ⟨by omega, hf0⟩)
                  rw [HT1.out, ← Nat.add_assoc, ← Nat.add_assoc] at htp
                  have HTP9 := Lib.hid htp
                  have HMP9 := Lib.hid (HM9.out.put (AT + 3 + j) (nowO (toO ws ord) (nth ws (p + 3 + j))))
                  have HBP9 := Lib.hid (HBR9.out.setCell (p := ⟨G, AT + 3 + j, none⟩) hGF (.int .i64 (nowO (toO ws ord) (nth ws (p + 3 + j)))))
                  have HF0 := Lib.hid hf0
                  clear hraw hcf hf0 htp
                  go_wp2_with (go_at_call 104; refine (rnow17_any ws ws ord HBND.out F F ws.length ws.length (nth ws (p + 3 + j)) wr HM9.out.tos HCF9.out (Nat.le_refl _)).mono ?_; rintro e w' ⟨rfl, rfl⟩)
                  go_roundw
                  case rel => exact ⟨j + 1, _, by go_num, by omega, fun h => absurd h HF0.out, HTP9.out, HMP9.out, HBP9.out⟩
                  case measure => simp [intOf]; omega
                · have htz : Turn ws ord (ord.take k) p (szT ws p) xs2 := by
                    by_cases hf0 : formOf ws p = 1
                    · exact HTN9.out.pass (by omega) (fun i h1 h2 h3 h4 => by
                        rcases h4 with h4 | ⟨_, h4⟩
                        · omega
                        · exact h4 hf0)
                    · have : j = slotsN ws p := by
                        have : ¬ j < slotsN ws p := fun h => hgo ⟨h, hf0⟩
                        omega
                      have h3 := HTN9.out
                      rw [this] at h3
                      exact h3
                  obtain ⟨r1, r2⟩ := turn_step HOD.out hkl HT3.out HATE.out htz
                  have R1 := Lib.hid r1; have R2 := Lib.hid r2
                  clear htz r1 r2
                  by_cases hjl : j < slotsN ws p
                  · have hjl' : (AT : Int) + 3 + j < (AT : Int) + 3 + nth ws (p + 2) / 4 := by have := HSD.out; omega
                    have hm0 : (nth ws (p + 2) % 4 != 1) = false := by
                      have h9 : nth ws (p + 2) % 4 = 1 := Classical.byContradiction fun h => hgo ⟨hjl, h⟩
                      simpa using h9
                    clear hgo
                    go_wp2_with fail
                    go_roundw
                    case rel => exact ⟨k + 1, xs2, by rw [R2.out]; have := HSD.out; congr 1; omega, by omega, R1.out, HM9.out, HBR9.out⟩
                    case measure => simp [intOf]; have := HSD.out; omega
                  · have hjl' : ¬ (AT : Int) + 3 + j < (AT : Int) + 3 + nth ws (p + 2) / 4 := by have := HSD.out; omega
                    clear hgo
                    go_wp2_with fail
                    go_roundw
                    case rel => exact ⟨k + 1, xs2, by rw [R2.out]; have := HSD.out; congr 1; omega, by omega, R1.out, HM9.out, HBR9.out⟩
                    case measure => simp [intOf]; have := HSD.out; omega
            · obtain rfl : k = ord.length := by omega
              rw [List.take_length] at HTN ⊢
              have hend : xs = arrW ws ord := turn_end HOD.out HTN.out
              have HEND := Lib.hid hend
              have g1 : ¬ (endO ws ord 2 : Int) < (nG : Nat) := by have := HLX.out; have := HGN.out; omega
              generalize endO ws ord 2 = EN at g1 ⊢
              clear hend HLT
              obtain ⟨wl, hwl⟩ : ∃ x, x = wr := ⟨_, rfl⟩
              subst hwl
              have HML := HM; have HBL := HBR; have HNL := HGN
              have hBIN := HBW.out _ HBL.out
              have HBIN := Lib.hid hBIN
              have hFl : F ≤ wl.heap.size := HML.out.size
              clear HM HBR HGN hBIN HTN HLX
              go_wp2_with fail
              clear g1
              go_loopw [9, 15] (fun v i u => ∃ j : Nat, i = .int .i64 j ∧ j ≤ rs.length ∧ Below wl.heap.size wl u ∧ Own u wl.heap.size v ((rs.take j).map (nowO (toO ws ord)))) (fun _ i _ => rs.length - (intOf i).toNat)
              case atStart => exact ⟨0, rfl, Nat.zero_le _, Below.refl _ _, Own.nil _ _⟩
              case round =>
                obtain ⟨j, rfl, hj, hb5, hown5⟩ := hrel
                have HB5 := Lib.hid hb5; have HO5 := Lib.hid hown5
                have hws : wl.heap.size ≤ wr.heap.size := hb5.size
                clear hb5 hown5
                by_cases hjl : j < rs.length
                · obtain ⟨b', o', rfl, hb', hrow'⟩ := HBIN.out (by omega)
                  have hcell := (hrow'.below HB5.out hb') j hjl
                  have hfj := HFIT.out (nth rs j) (by rw [nth_eq hjl]; exact List.getElem_mem _)
                  have HFJ := Lib.hid hfj
                  have HTOS := Lib.hid (HML.out.tos.below HB5.out (fun q hq => (HML.out.tos.lt q hq).2))
                  clear hrow' hfj
                  have hly : ((rs.take j).map (nowO (toO ws ord))).length ≤ 1000000000 := by simp; omega
                  have hz6 : wl.heap.size ≤ (wr.alloc (.cells #[.int .i64 (nowO (toO ws ord) (nth rs j))] 3)).heap.size := by rw [World.size_alloc]; omega
                  go_wp2_with (first
                    | (go_at_call 104; refine (rnow17_any ws ws ord HBND.out F F ws.length ws.length (nth rs j) wr HTOS.out HFJ.out (Nat.le_refl _)).mono ?_; rintro e w' ⟨rfl, rfl⟩)
                    | (at_builtin; refine wpList_pushN rfl _ _ rfl wl.heap.size _ ((rs.take j).map (nowO (toO ws ord))) rfl (HO5.out.alloc _) wr.heap.size 1 (nowO (toO ws ord) (nth rs j)) rfl (cell_new wr _ _ _ 0) hly hz6 ?_; intro g6 n6 cap6 w6 hown6 hg6 hgr6; have HO6 := Lib.hid hown6; have HB6 := Lib.hid ((HB5.out.alloc hws _).grown hgr6 hz6 (fun q hq => (HO5.out.lt q hq).1)); clear hown6 hgr6))
                  go_roundw
                  case rel =>
                    refine ⟨j + 1, by go_num, by omega, HB6.out, ?_⟩
                    have h8 := HO6.out
                    rw [List.take_succ_eq_append_getElem hjl, List.map_append, List.map_singleton, ← nth_eq hjl]
                    exact h8
                  case measure => simp [intOf]; omega
                · obtain rfl : j = rs.length := by omega
                  have hw15 : Below w1.heap.size w1 wr := by
                    have h1 := HBL.out.trans (HB5.out.mono hFl)
                    rwa [← HFE.out] at h1
                  obtain ⟨z1, z2, z3⟩ := (HR0.out.below hw15 HR0.out.lt).f1
                  have HW15 := Lib.hid hw15
                  have hO5 := HO5.out
                  rw [List.take_length] at hO5
                  obtain ⟨A5, c5, rfl, -⟩ := hO5.form2
                  have HO5' := Lib.hid hO5
                  have hOL5 := HML.out.out.below HB5.out (fun q hq => (HML.out.out.lt q hq).2)
                  have hnl := HNL.out
                  rw [HEND.out] at hOL5 hnl
                  have HOL5 := Lib.hid hOL5; have HNLA := Lib.hid hnl
                  have hl2 : w1.heap.size ≤ F := by have := HFE.out; omega
                  have hl1 : w.heap.size + 1 < w1.heap.size := by have h1 := hsz.out; have h2 := HFE.out; omega
                  clear hw15 hO5 hOL5 hnl
                  go_wp2_with fail
                  refine bodyPost_ret (v := .tuple #[.agg #[.slice (some ⟨G, 0, none⟩) nG cG], .slice A5 (rs.map (nowO (toO ws ord))).length c5]) (by simp [results, Try.results56, go_sem, z1]) rfl ⟨ord.length, HKS.out, ?_⟩
                  rw [← HCH.out]
                  have hA := HOL5.out
                  rw [HNLA.out] at hA ⊢
                  unfold arrR
                  refine ⟨(HX0.out.trans (HW15.out.mono HX0.out.size)).setCell (by dsimp only; omega) _, _, _, A5, c5, rfl, ?_, ?_⟩
                  · exact (hA.mono (by omega)).setCell _ (fun e => by have := (hA.lt _ e).1; dsimp only at this; omega) _
                  · exact (HO5'.out.mono (by omega)).setCell _ (fun e => by have := (HO5'.out.lt _ e).1; dsimp only at this; omega) _
end Go.Proofs.Ytjpppdacamhhfaa
