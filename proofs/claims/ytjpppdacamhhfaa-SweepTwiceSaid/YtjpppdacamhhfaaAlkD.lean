/- slices.Equal, and (*pairs).things: two things held against each other. Conditions: views of heaps that may be. -/
import Derived.Test.YtjpppdacamhhfaaAlkC
import Derived.BigQuiet
namespace Go.Proofs.Ytjpppdacamhhfaa
open Go.RowKit
set_option linter.unusedVariables false

section
variable (xs ys : List Int) (A B : Option Addr) (c d : Nat) (w : World) (hA : Ints w A xs) (hB : Ints w B ys) (hl : xs.length ≤ 1000000000)
include hA hB hl
set_option maxRecDepth 100000 in
theorem equal_any : Calls Try.prog 157 #[.slice A xs.length c, .slice B ys.length d] w fun e w' => e = .returned (.bool (eqB xs ys)) ∧ ∃ m, w' = w.drewN m := by
  have HA := Lib.hid hA; clear hA
  have HB := Lib.hid hB; clear hB
  by_cases hlen : xs.length = ys.length
  · have HL := Lib.hid hlen
    have hle : xs.length ≤ ys.length := by omega
    have hge : ys.length ≤ xs.length := by omega
    have hd : ((xs.length : Int) != (ys.length : Int)) = false := by simp; omega
    clear hlen
    go_enter Try.func157, Try.ntmps157
    go_wp2_with fail
    go_loopw [13] (fun i wr => ∃ (k m : Nat), k ≤ xs.length ∧ i = .int .i64 k ∧ wr = w.drewN m ∧ ∀ j, j < k → nth xs j = nth ys j) (fun i _ => xs.length - (intOf i).toNat)
    case atStart => exact ⟨0, 0, Nat.zero_le _, rfl, rfl, fun j hj => absurd hj (Nat.not_lt_zero _)⟩
    case round =>
      obtain ⟨k, m, hk, rfl, rfl, hall⟩ := hrel
      have HALL := Lib.hid hall; clear hall
      by_cases hlt : k < xs.length
      · obtain ⟨b, o, rfl, _, hr⟩ := HA.out (by omega)
        obtain ⟨b', o', rfl, _, hr'⟩ := HB.out (by omega)
        have h1 := hr k hlt
        have h2 := hr' k (by omega)
        have f1 : (0 : Int) ≤ (k : Int) := by omega
        have f2 : (k : Int) < (xs.length : Int) := by omega
        have f3 : (k : Int) < (ys.length : Int) := by omega
        clear hr hr'
        cases he : (nth xs k != nth ys k)
        · have he' : nth xs k = nth ys k := by simpa using he
          have HE := Lib.hid he'; clear he'
          go_wp2_with fail
          go_quiet (fail)
          go_wp2
          go_roundw
          case rel => exact ⟨k + 1, _, by omega, by go_num, rfl, fun j hj => by rcases Nat.lt_or_ge j k with h | h; exact HALL.out j h; obtain rfl : j = k := by omega
                                                                                exact HE.out⟩
          case measure => simp [intOf]; omega
        · have he' : nth xs k ≠ nth ys k := by simpa using he
          have HE := Lib.hid (eqB_nth he'); clear he'
          go_wp2_with fail
          go_quiet (fail)
          go_wp2
          go_ret
          exact ⟨ret_bool HE.out.symm, _, World.drewN_drewN ..⟩
      · have HE := Lib.hid (eqB_all HL.out (fun j hj => HALL.out j (by omega)))
        go_wp2
        go_ret
        exact ⟨ret_bool HE.out.symm, _, rfl⟩
  · have HN := Lib.hid (eqB_len hlen)
    have hd : ((xs.length : Int) != (ys.length : Int)) = true := by simp; omega
    clear hlen
    go_enter Try.func157, Try.ntmps157
    go_wp2
    go_ret
    exact ⟨ret_bool HN.out.symm, 0, rfl⟩
end

/-- A view of a heap, as it stays. -/
structure SideV (S : Nat → Prop) (w : World) (ga b o c : Nat) (ws : List Int) : Prop where
  cell : ∀ W, Turned w W S → W.cell? ⟨ga, 0, none⟩ = some (.slice (some ⟨b, o, none⟩) ws.length c)
  row : ∀ W, Turned w W S → Row W b o ws ∧ b < W.heap.size
  view : ∀ W, Turned w W S → ViewAt W ga ws
  cap : ws.length ≤ c
  ok : OkH ws
  i64 : I64 ws
theorem SideV.turn {S : Nat → Prop} {w w' : World} {ga b o c : Nat} {ws : List Int} (h : SideV S w ga b o c ws) (ht : Turned w w' S) : SideV S w' ga b o c ws :=
  ⟨fun W h' => h.cell W (ht.trans h' (fun _ _ e => e)), fun W h' => h.row W (ht.trans h' (fun _ _ e => e)), fun W h' => h.view W (ht.trans h' (fun _ _ e => e)), h.cap, h.ok, h.i64⟩
theorem I64.slots {ws : List Int} (h : I64 ws) {p : Nat} (hb : badB ws p = false) : I64 (slotsL ws p) := fun j => by
  by_cases hj : j < slotsN ws p
  · rw [slotsL_nth hb hj]; exact h _
  · have : nth (slotsL ws p) j = 0 := by unfold nth; rw [List.getD_eq_getElem?_getD, List.getElem?_eq_none (by rw [slotsL_len hb]; omega)]; rfl
    rw [this]; omega
def ThEnd (P Q0 ga Sa Ma gb Sb Mb k : Nat) (f g : Nat → Bool) (r : Bool × List (Nat × Nat)) (w : World) (e : Ending) (w' : World) : Prop :=
  e = .returned (.bool r.1) ∧ (r.1 = true → AlkI P Q0 ga Sa Ma gb Sb Mb k f g r.2 w') ∧ Turned w w' (alkT P Q0 Ma Mb)

set_option maxRecDepth 100000 in
set_option maxHeartbeats 8000000 in
theorem things2_any (P Q0 ga Sa Ma gb Sb Mb k b o c b' o' c' : Nat) (ws rs vs qs : List Int) (f g : Nat → Bool) (hC : AlkC ws rs vs qs f g) (ps : List (Nat × Nat)) (x y : Nat) (w : World) (hI : AlkI P Q0 ga Sa Ma gb Sb Mb k f g ps w)
    (hxy : (x, y) ∈ ps) (hV : SideV (alkT P Q0 Ma Mb) w ga b o c ws) (hU : SideV (alkT P Q0 Ma Mb) w gb b' o' c' vs) :
    Calls Try.prog 130 #[.pointer (some ⟨P, 0, none⟩), .int .i64 x, .int .i64 y] w (ThEnd P Q0 ga Sa Ma gb Sb Mb k f g (thP ws vs ps x y) w) := by
  obtain ⟨hx, hy⟩ := hI.2.1.rch x y hxy
  have px := (tell_fit hC.ok hC.fit hC.tell hx).1
  have py := (tell_fit hC.ok' hC.fit' hC.tell' hy).1
  obtain ⟨px2, pxl, pxb⟩ := places_mem px
  obtain ⟨py2, pyl, pyb⟩ := places_mem py
  obtain ⟨m1, m2, m3, m4, m5⟩ := not_bad pxb
  obtain ⟨n1, n2, n3, n4, n5⟩ := not_bad pyb
  have hq1 : ws.length ≤ 2000 := hC.ok.most
  have hq2 : vs.length ≤ 2000 := hC.ok'.most
  have hS : ∀ (ps' : List (Nat × Nat)) W, AlkI P Q0 ga Sa Ma gb Sb Mb k f g ps' W → Turned w W (alkT P Q0 Ma Mb) →
      W.cell? ⟨P, 0, none⟩ = some (.pointer (some ⟨ga, 0, none⟩)) ∧ W.cell? ⟨P, 3, none⟩ = some (.pointer (some ⟨gb, 0, none⟩)) ∧ W.cell? ⟨ga, 0, none⟩ = some (.slice (some ⟨b, o, none⟩) ws.length c) ∧ W.cell? ⟨gb, 0, none⟩ = some (.slice (some ⟨b', o', none⟩) vs.length c') ∧
      W.cell? ⟨b, o + x, none⟩ = some (.int .i64 (nth ws x)) ∧ W.cell? ⟨b, o + (x + 1), none⟩ = some (.int .i64 (nth ws (x + 1))) ∧ W.cell? ⟨b, o + (x + 2), none⟩ = some (.int .i64 (nth ws (x + 2))) ∧
      W.cell? ⟨b', o' + y, none⟩ = some (.int .i64 (nth vs y)) ∧ W.cell? ⟨b', o' + (y + 1), none⟩ = some (.int .i64 (nth vs (y + 1))) ∧ W.cell? ⟨b', o' + (y + 2), none⟩ = some (.int .i64 (nth vs (y + 2))) := fun ps' W h1 h2 => by
    obtain ⟨A', n', c', hbk, _⟩ := h1.1.blk
    obtain ⟨d0, d1, d2, d3, d4, d5, _⟩ := hbk.f7
    have r1 := (hV.row W h2).1
    have r2 := (hU.row W h2).1
    exact ⟨d0, d3, hV.cell W h2, hU.cell W h2, r1 x pxl, r1 (x + 1) (by omega), r1 (x + 2) (by omega), r2 y pyl, r2 (y + 1) (by omega), r2 (y + 2) (by omega)⟩
  have hsa : ∀ W, Below w.heap.size w W → Calls Try.prog 98 #[.pointer (some ⟨ga, 0, none⟩), .int .i64 x] W fun e w' => e = .returned (.slice (slotsA b o c x) (slotsN ws x) (c - (x + 3))) ∧ Below w.heap.size w w' := fun W h =>
    (slots_any ws ga b o c x W (hV.cell W (turned_of_below h)) (hV.row W (turned_of_below h)).1 hV.i64 (by omega) pxb hV.cap).mono fun e w' h' => ⟨h'.1, by obtain ⟨m, rfl⟩ := h'.2; exact h.trans (belowN _ _ m)⟩
  have hsb : ∀ W, Below w.heap.size w W → Calls Try.prog 98 #[.pointer (some ⟨gb, 0, none⟩), .int .i64 y] W fun e w' => e = .returned (.slice (slotsA b' o' c' y) (slotsN vs y) (c' - (y + 3))) ∧ Below w.heap.size w w' := fun W h =>
    (slots_any vs gb b' o' c' y W (hU.cell W (turned_of_below h)) (hU.row W (turned_of_below h)).1 hU.i64 (by omega) pyb hU.cap).mono fun e w' h' => ⟨h'.1, by obtain ⟨m, rfl⟩ := h'.2; exact h.trans (belowN _ _ m)⟩
  have hcx : ∀ o ∈ holdsL ws x, kd o = 3 → f (pcl o) = true := fun o ho hk => (hC.tell _).2 (.step x o ((hC.tell _).1 hx) ho hk)
  have hcy : ∀ o ∈ holdsL vs y, kd o = 3 → g (pcl o) = true := fun o ho hk => (hC.tell' _).2 (.step y o ((hC.tell' _).1 hy) ho hk)
  have hal : ∀ W, Below w.heap.size w W → Calls Try.prog 129 #[.pointer (some ⟨P, 0, none⟩), .int .i64 (nth ws x), .int .i64 (nth vs y)] W fun e w' => e = .returned (.bool (alP ps (nth ws x) (nth vs y)).1) ∧ AlkI P Q0 ga Sa Ma gb Sb Mb k f g (alP ps (nth ws x) (nth vs y)).2 w' ∧ Turned w w' (alkT P Q0 Ma Mb) := fun W h =>
    (alike_st P Q0 ga Sa Ma gb Sb Mb k ws rs vs qs f g hC ps _ _ W ⟨hI.1.keep h, hI.2⟩ (class_fits hC.ok px) (class_fits hC.ok' py) (hcx _ List.mem_cons_self) (hcy _ List.mem_cons_self)).mono fun e w' h' => ⟨h'.1, h'.2.1, (turned_of_below h).trans h'.2.2 (fun _ _ e => e)⟩
  have hB : ∀ W, Below w.heap.size w W → AlkI P Q0 ga Sa Ma gb Sb Mb k f g ps W ∧ Turned w W (alkT P Q0 Ma Mb) := fun W h => ⟨⟨hI.1.keep h, hI.2⟩, turned_of_below h⟩
  have hd : Below w.heap.size w w.drew := (Below.refl _ _).drew
  have HS := Lib.hid hS; have HSA := Lib.hid hsa; have HSB := Lib.hid hsb; have HAL := Lib.hid hal; have HB := Lib.hid hB; have HD := Lib.hid hd
  obtain ⟨s0, s1, s2, s3, s4, s5, s6, s7, s8, s9⟩ := hS ps w hI (Turned.refl _ _)
  have hS0 := hS ps w.drew ⟨hI.1.keep hd, hI.2⟩ (turned_of_below hd)
  have k1 : (x : Int) + 1 < (ws.length : Int) := by omega
  have k2 : (x : Int) + 2 < (ws.length : Int) := by omega
  have k3 : (y : Int) + 1 < (vs.length : Int) := by omega
  have k4 : (y : Int) + 2 < (vs.length : Int) := by omega
  have i1 : IntKind.i64.wrap ((x : Int) + 1) = (x : Int) + 1 := IntWalk.i64_in _ (by omega)
  have i2 : IntKind.i64.wrap ((x : Int) + 2) = (x : Int) + 2 := IntWalk.i64_in _ (by omega)
  have i3 : IntKind.i64.wrap ((y : Int) + 1) = (y : Int) + 1 := IntWalk.i64_in _ (by omega)
  have i4 : IntKind.i64.wrap ((y : Int) + 2) = (y : Int) + 2 := IntWalk.i64_in _ (by omega)
  have j1 : ((x : Int) + 1).toNat = x + 1 := by omega
  have j2 : ((x : Int) + 2).toNat = x + 2 := by omega
  have j3 : ((y : Int) + 1).toNat = y + 1 := by omega
  have j4 : ((y : Int) + 2).toNat = y + 2 := by omega
  have l1 : 0 ≤ (x : Int) + 1 := by omega
  have l2 : 0 ≤ (x : Int) + 2 := by omega
  have l3 : 0 ≤ (y : Int) + 1 := by omega
  have l4 : 0 ≤ (y : Int) + 2 := by omega
  have p1 : x + 1 < ws.length := by omega
  have p2 : x + 2 < ws.length := by omega
  have p3 : y + 1 < vs.length := by omega
  have p4 : y + 2 < vs.length := by omega
  by_cases e1 : nth ws (x + 1) = nth vs (y + 1)
  · by_cases e2 : nth ws (x + 2) = nth vs (y + 2)
    · have t1 : (nth ws (x + 1) != nth vs (y + 1)) = false := by simpa using e1
      have t2 : (nth ws (x + 2) != nth vs (y + 2)) = false := by simpa using e2
      have hth : thP ws vs ps x y = if (alP ps (nth ws x) (nth vs y)).1 = false then (false, (alP ps (nth ws x) (nth vs y)).2) else
          if formOf ws x = 0 then alAll (alP ps (nth ws x) (nth vs y)).2 (slotsL ws x) (slotsL vs y) else
          if formOf ws x = 1 then (decide (slotsL ws x = slotsL vs y), (alP ps (nth ws x) (nth vs y)).2) else (true, (alP ps (nth ws x) (nth vs y)).2) := by
        unfold thP; rw [if_neg (fun e => e e1), if_neg (fun e => e e2)]
      have HTH0 := Lib.hid hth
      have HV := Lib.hid hV; have HU := Lib.hid hU; have HC := Lib.hid hC
      have HCX := Lib.hid hcx; have HCY := Lib.hid hcy; have HPX := Lib.hid px; have HPY := Lib.hid py; have HBX := Lib.hid pxb; have HBY := Lib.hid pyb
      have hsn : slotsN vs y = slotsN ws x := by unfold slotsN; rw [e2]
      have hfm : formOf vs y = formOf ws x := by unfold formOf; rw [e2]
      have HSN := Lib.hid hsn; have HFM := Lib.hid hfm
      clear hS hsa hsb hal hB hd hC hI hxy hV hU hx hy px py pxb pyb hcx hcy hth e1 e2 hsn hfm
      generalize alP ps (nth ws x) (nth vs y) = r at *
      go_enter Try.func130, Try.ntmps130
      go_wp2_with fail
      go_region_held3 (fun W => W.cell? ⟨P, 0, none⟩ = some (.pointer (some ⟨ga, 0, none⟩)) ∧ W.cell? ⟨P, 3, none⟩ = some (.pointer (some ⟨gb, 0, none⟩)) ∧ W.cell? ⟨ga, 0, none⟩ = some (.slice (some ⟨b, o, none⟩) ws.length c) ∧ W.cell? ⟨gb, 0, none⟩ = some (.slice (some ⟨b', o', none⟩) vs.length c') ∧
          W.cell? ⟨b, o + x, none⟩ = some (.int .i64 (nth ws x)) ∧ W.cell? ⟨b, o + (x + 1), none⟩ = some (.int .i64 (nth ws (x + 1))) ∧ W.cell? ⟨b, o + (x + 2), none⟩ = some (.int .i64 (nth ws (x + 2))) ∧
          W.cell? ⟨b', o' + y, none⟩ = some (.int .i64 (nth vs y)) ∧ W.cell? ⟨b', o' + (y + 1), none⟩ = some (.int .i64 (nth vs (y + 1))) ∧ W.cell? ⟨b', o' + (y + 2), none⟩ = some (.int .i64 (nth vs (y + 2))))
        (first | exact hS2 | exact hS1 | exact hS0 | go_keep)
        (first
          | (go_at_call 98; with_reducible refine (HSA.out _ HD.out).mono ?_; rintro e w1 ⟨rfl, hb1⟩; have HB1 := Lib.hid hb1; have hS1 := HS.out ps _ (HB.out _ hb1).1 (HB.out _ hb1).2; clear hb1)
          | (go_at_call 98; with_reducible refine (HSB.out _ HB1.out).mono ?_; rintro e w2 ⟨rfl, hb2⟩; have HB2 := Lib.hid hb2; have hS2 := HS.out ps _ (HB.out _ hb2).1 (HB.out _ hb2).2; clear hb2))
      clear hS0 hS1 hS2 s0 s1 s2 s3 s4 s5 s6 s7 s8 s9
      obtain ⟨s0, s1, s2, s3, s4, s5, s6, s7, s8, s9⟩ := HS.out ps _ (HB.out _ HB2.out).1 (HB.out _ HB2.out).2
      have HD2 := Lib.hid HB2.out.drew
      have hS4 := HS.out ps _ (HB.out _ HD2.out).1 (HB.out _ HD2.out).2
      go_wp2_with fail
      simp only [List.append_eq, List.cons_append, List.nil_append]
      go_still_tail 76, (by kernel_rfl)
      change wpList _ _ _ _ _ (World.drew w2)
      clear hS4 s0 s1 s2 s3 s4 s5 s6 s7 s8 s9
      cases hr : r.1
      · have hth : thP ws vs ps x y = (false, r.2) := by rw [HTH0.out, if_pos hr]
        have HTH := Lib.hid hth
        rw [hr] at HAL
        clear hth hr
        go_wp2_with (go_at_call 129; with_reducible refine (HAL.out _ HD2.out).mono ?_; rintro e w3 ⟨rfl, hr1, hr2⟩; have HR1 := Lib.hid hr1; have HR2 := Lib.hid hr2; clear hr1 hr2)
        refine bodyPost_ret (v := .bool false) (by simp [results, Try.results130, go_sem]) rfl ?_
        rw [HTH.out]
        exact ⟨rfl, fun e => (Bool.false_ne_true e).elim, HR2.out⟩
      · rw [hr, if_neg (by decide)] at HTH0
        rw [hr] at HAL
        clear hr
        go_wp2_with (go_at_call 129; with_reducible refine (HAL.out _ HD2.out).mono ?_; rintro e w3 ⟨rfl, hr1, hr2⟩; obtain ⟨s0, s1, -⟩ := HS.out _ _ hr1 hr2; have HR1 := Lib.hid hr1; have HR2 := Lib.hid hr2; have HVW := Lib.hid (HV.out.view _ hr2); clear hr1 hr2)
        refine (formv_any HVW.out HV.out.i64 (by omega) x (by omega)).mono ?_
        rintro e w' ⟨rfl, rfl⟩
        have hTT : ∀ W, Turned w3 W (alkT P Q0 Ma Mb) → Turned w W (alkT P Q0 Ma Mb) := fun W h => HR2.out.trans h (fun _ _ e => e)
        have HTT := Lib.hid hTT
        clear hTT
        by_cases f0 : formOf ws x = 0
        · have hth : thP ws vs ps x y = alAll r.2 (slotsL ws x) (slotsL vs y) := by rw [HTH0.out, if_pos f0]
          have HTH := Lib.hid hth
          have b0 : (formOf ws x == 0) = true := by simpa using f0
          have hcall := all_any P (slotsL ws x) (slotsL vs y) (slotsA b o c x) (slotsA b' o' c' y) (c - (x + 3)) (c' - (y + 3)) (fun z => z) (fun z => z) (AlkI P Q0 ga Sa Ma gb Sb Mb k f g) (alkT P Q0 Ma Mb) w3 r.2
            (by rw [slotsL_len HBX.out, slotsL_len HBY.out, HSN.out]) (by rw [slotsL_len HBX.out]; unfold slotsN; omega) (HV.out.i64.slots HBX.out) (HU.out.i64.slots HBY.out)
            (fun W h => ints_slots (HV.out.row W (HTT.out W h)).1 (HV.out.row W (HTT.out W h)).2 HBX.out HV.out.cap) (fun W h => ints_slots (HU.out.row W (HTT.out W h)).1 (HU.out.row W (HTT.out W h)).2 HBY.out HU.out.cap) HR1.out
            (fun j ps' W hj hI' hT' => by
              rw [slotsL_len HBX.out] at hj
              have hj2 : j < slotsN vs y := by rw [HSN.out]; exact hj
              rw [slotsL_nth HBX.out hj, slotsL_nth HBY.out hj2]
              have hm1 : nth ws (x + 3 + j) ∈ holdsL ws x := by unfold holdsL; rw [if_pos f0]; exact List.mem_cons_of_mem _ ((slotsL_mem HBX.out).2 ⟨j, hj, rfl⟩)
              have hm2 : nth vs (y + 3 + j) ∈ holdsL vs y := by unfold holdsL; rw [if_pos (by rw [HFM.out]; exact f0)]; exact List.mem_cons_of_mem _ ((slotsL_mem HBY.out).2 ⟨j, hj2, rfl⟩)
              exact alike_st P Q0 ga Sa Ma gb Sb Mb k ws rs vs qs f g HC.out ps' _ _ W hI' (holds_fits HC.out.ok HPX.out hm1) (holds_fits HC.out.ok' HPY.out hm2) (HCX.out _ hm1) (HCY.out _ hm2))
          rw [List.map_id', List.map_id', slotsL_len HBX.out, slotsL_len HBY.out] at hcall
          have HCALL := Lib.hid hcall
          clear hth f0 hcall
          generalize alAll r.2 (slotsL ws x) (slotsL vs y) = r9 at *
          go_wp2_with (go_at_call 128; refine HCALL.out.mono ?_; rintro e w9 ⟨rfl, h91, h92⟩; have H91 := Lib.hid h91; have H92 := Lib.hid h92; clear h91 h92)
          refine bodyPost_ret (v := .bool r9.1) (by simp [results, Try.results130, go_sem]) rfl ?_
          rw [HTH.out]
          exact ⟨rfl, H91.out, HTT.out _ H92.out⟩
        · have b0 : (formOf ws x == 0) = false := by simpa using f0
          by_cases f1 : formOf ws x = 1
          · have b1 : (formOf ws x == 1) = true := by simpa using f1
            have hth : thP ws vs ps x y = (eqB (slotsL ws x) (slotsL vs y), r.2) := by rw [HTH0.out, if_neg f0, if_pos f1]; rfl
            have HTH := Lib.hid hth
            have hcall := equal_any (slotsL ws x) (slotsL vs y) (slotsA b o c x) (slotsA b' o' c' y) (c - (x + 3)) (c' - (y + 3)) w3 (ints_slots (HV.out.row _ HR2.out).1 (HV.out.row _ HR2.out).2 HBX.out HV.out.cap) (ints_slots (HU.out.row _ HR2.out).1 (HU.out.row _ HR2.out).2 HBY.out HU.out.cap) (by rw [slotsL_len HBX.out]; unfold slotsN; omega)
            rw [slotsL_len HBX.out, slotsL_len HBY.out] at hcall
            have HCALL := Lib.hid hcall
            clear hth f0 f1 hcall
            generalize eqB (slotsL ws x) (slotsL vs y) = r9 at *
            go_wp2_with (go_at_call 157; refine HCALL.out.mono ?_; rintro e w9 ⟨rfl, m9, rfl⟩)
            refine bodyPost_ret (v := .bool r9) (by simp [results, Try.results130, go_sem]) rfl ?_
            rw [HTH.out]
            exact ⟨rfl, fun _ => ⟨HR1.out.1.keep (belowN _ _ m9), HR1.out.2⟩, HTT.out _ (turned_of_below (belowN _ _ m9))⟩
          · have b1 : (formOf ws x == 1) = false := by simpa using f1
            have hth : thP ws vs ps x y = (true, r.2) := by rw [HTH0.out, if_neg f0, if_neg f1]
            have HTH := Lib.hid hth
            clear hth f0 f1
            go_wp2_with fail
            refine bodyPost_ret (v := .bool true) (by simp [results, Try.results130, go_sem]) rfl ?_
            rw [HTH.out]
            exact ⟨rfl, fun _ => HR1.out, HR2.out⟩
    · have t1 : (nth ws (x + 1) != nth vs (y + 1)) = false := by simpa using e1
      have t2 : (nth ws (x + 2) != nth vs (y + 2)) = true := by simpa using e2
      have hth : thP ws vs ps x y = (false, ps) := by unfold thP; rw [if_neg (fun e => e e1), if_pos e2]
      have HTH := Lib.hid hth
      clear hS hsa hsb hal hB hd hC hI hxy hV hU hx hy px py pxb pyb hcx hcy hth e1 e2
      go_enter Try.func130, Try.ntmps130
      go_wp2_with fail
      go_region_held3 (fun W => W.cell? ⟨P, 0, none⟩ = some (.pointer (some ⟨ga, 0, none⟩)) ∧ W.cell? ⟨P, 3, none⟩ = some (.pointer (some ⟨gb, 0, none⟩)) ∧ W.cell? ⟨ga, 0, none⟩ = some (.slice (some ⟨b, o, none⟩) ws.length c) ∧ W.cell? ⟨gb, 0, none⟩ = some (.slice (some ⟨b', o', none⟩) vs.length c') ∧
          W.cell? ⟨b, o + x, none⟩ = some (.int .i64 (nth ws x)) ∧ W.cell? ⟨b, o + (x + 1), none⟩ = some (.int .i64 (nth ws (x + 1))) ∧ W.cell? ⟨b, o + (x + 2), none⟩ = some (.int .i64 (nth ws (x + 2))) ∧
          W.cell? ⟨b', o' + y, none⟩ = some (.int .i64 (nth vs y)) ∧ W.cell? ⟨b', o' + (y + 1), none⟩ = some (.int .i64 (nth vs (y + 1))) ∧ W.cell? ⟨b', o' + (y + 2), none⟩ = some (.int .i64 (nth vs (y + 2))))
        (first | exact hS2 | exact hS1 | exact hS0 | go_keep)
        (first
          | (go_at_call 98; with_reducible refine (HSA.out _ HD.out).mono ?_; rintro e w1 ⟨rfl, hb1⟩; have HB1 := Lib.hid hb1; have hS1 := HS.out ps _ (HB.out _ hb1).1 (HB.out _ hb1).2; clear hb1)
          | (go_at_call 98; with_reducible refine (HSB.out _ HB1.out).mono ?_; rintro e w2 ⟨rfl, hb2⟩; have HB2 := Lib.hid hb2; have hS2 := HS.out ps _ (HB.out _ hb2).1 (HB.out _ hb2).2; clear hb2))
      clear hS0 hS1 hS2 s0 s1 s2 s3 s4 s5 s6 s7 s8 s9
      obtain ⟨s0, s1, s2, s3, s4, s5, s6, s7, s8, s9⟩ := HS.out ps _ (HB.out _ HB2.out).1 (HB.out _ HB2.out).2
      have HD2 := Lib.hid HB2.out.drew
      have hS4 := HS.out ps _ (HB.out _ HD2.out).1 (HB.out _ HD2.out).2
      go_wp2_with fail
      simp only [List.append_eq, List.cons_append, List.nil_append]
      go_quiet (fail)
      have HQN := Lib.hid ((HB2.out).trans ((belowN w2.heap.size w2 nq).mono HB2.out.size))
      go_wp2
      refine bodyPost_ret (v := .bool false) (by simp [results, Try.results130, go_sem]) rfl ?_
      rw [HTH.out]
      exact ⟨rfl, fun e => (Bool.false_ne_true e).elim, (HB.out _ HQN.out).2⟩
  · have t1 : (nth ws (x + 1) != nth vs (y + 1)) = true := by simpa using e1
    have hth : thP ws vs ps x y = (false, ps) := by unfold thP; rw [if_pos e1]
    have HTH := Lib.hid hth
    clear hS hsa hsb hal hB hd hC hI hxy hV hU hx hy px py pxb pyb hcx hcy hth e1
    go_enter Try.func130, Try.ntmps130
    go_wp2_with fail
    go_region_held3 (fun W => W.cell? ⟨P, 0, none⟩ = some (.pointer (some ⟨ga, 0, none⟩)) ∧ W.cell? ⟨P, 3, none⟩ = some (.pointer (some ⟨gb, 0, none⟩)) ∧ W.cell? ⟨ga, 0, none⟩ = some (.slice (some ⟨b, o, none⟩) ws.length c) ∧ W.cell? ⟨gb, 0, none⟩ = some (.slice (some ⟨b', o', none⟩) vs.length c') ∧
        W.cell? ⟨b, o + x, none⟩ = some (.int .i64 (nth ws x)) ∧ W.cell? ⟨b, o + (x + 1), none⟩ = some (.int .i64 (nth ws (x + 1))) ∧ W.cell? ⟨b, o + (x + 2), none⟩ = some (.int .i64 (nth ws (x + 2))) ∧
        W.cell? ⟨b', o' + y, none⟩ = some (.int .i64 (nth vs y)) ∧ W.cell? ⟨b', o' + (y + 1), none⟩ = some (.int .i64 (nth vs (y + 1))) ∧ W.cell? ⟨b', o' + (y + 2), none⟩ = some (.int .i64 (nth vs (y + 2))))
      (first | exact hS2 | exact hS1 | exact hS0 | go_keep)
      (first
        | (go_at_call 98; with_reducible refine (HSA.out _ HD.out).mono ?_; rintro e w1 ⟨rfl, hb1⟩; have HB1 := Lib.hid hb1; have hS1 := HS.out ps _ (HB.out _ hb1).1 (HB.out _ hb1).2; clear hb1)
        | (go_at_call 98; with_reducible refine (HSB.out _ HB1.out).mono ?_; rintro e w2 ⟨rfl, hb2⟩; have HB2 := Lib.hid hb2; have hS2 := HS.out ps _ (HB.out _ hb2).1 (HB.out _ hb2).2; clear hb2))
    clear hS0 hS1 hS2 s0 s1 s2 s3 s4 s5 s6 s7 s8 s9
    obtain ⟨s0, s1, s2, s3, s4, s5, s6, s7, s8, s9⟩ := HS.out ps _ (HB.out _ HB2.out).1 (HB.out _ HB2.out).2
    have HD2 := Lib.hid HB2.out.drew
    have hS4 := HS.out ps _ (HB.out _ HD2.out).1 (HB.out _ HD2.out).2
    go_wp2_with fail
    simp only [List.append_eq, List.cons_append, List.nil_append]
    go_quiet (fail)
    have HQN := Lib.hid ((HB2.out).trans ((belowN w2.heap.size w2 nq).mono HB2.out.size))
    go_wp2
    refine bodyPost_ret (v := .bool false) (by simp [results, Try.results130, go_sem]) rfl ?_
    rw [HTH.out]
    exact ⟨rfl, fun e => (Bool.false_ne_true e).elim, (HB.out _ HQN.out).2⟩
end Go.Proofs.Ytjpppdacamhhfaa
