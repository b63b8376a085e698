/- The document's Check computes checkF. Conditions: the words are numbers of 64 bits. -/
import Derived.Test.YtjpppdacamhhfaaRef
import Derived.Test.YtjpppdacamhhfaaThing
import Derived.Deep.DeepCutAuto
namespace Go.Proofs.Ytjpppdacamhhfaa
open Go.RowKit
set_option linter.unusedVariables false

set_option maxRecDepth 100000 in
theorem rcheck_size (ws : List Int) (A : Option Addr) (c : Nat) (w : World) (hl : ws.length ≤ 9223372036854775807) (h : ws.length < 2 ∨ 2000 < ws.length) :
    Calls Try.prog 42 #[.agg #[.slice A ws.length c]] w fun e w' => e = .returned (fltV 1 0) ∧ Below w.heap.size w w' := by
  rcases h with h | h
  all_goals
    go_enter Try.func42, Try.ntmps42
    go_wp2

    exact bodyPost_ret (v := fltV 1 0) (by simp [results, Try.results42, go_sem, fltV]) rfl ⟨rfl, ((Below.refl _ _).alloc (Nat.le_refl _) _).alloc (by simp) _⟩

set_option maxRecDepth 100000 in
theorem rcheck_head (ws : List Int) (b o c : Nat) (w : World) (hr : Row w b o ws) (hb : b < w.heap.size) (h1 : 2 ≤ ws.length) (h2 : ws.length ≤ 2000) (h : (nth ws 0 != 0) = true) :
    Calls Try.prog 42 #[.agg #[.slice (some ⟨b, o, none⟩) ws.length c]] w fun e w' => e = .returned (fltV 2 0) ∧ Below w.heap.size w w' := by
  have hc0 := hr 0 (by omega)
  rw [Nat.add_zero] at hc0
  clear hr
  go_enter Try.func42, Try.ntmps42
  go_wp2

  exact bodyPost_ret (v := fltV 2 0) (by simp [results, Try.results42, go_sem, fltV]) rfl ⟨rfl, ((Below.refl _ _).alloc (Nat.le_refl _) _).alloc (by simp) _⟩

set_option maxRecDepth 100000 in
theorem rcheck_hash (ws : List Int) (b o c : Nat) (w : World) (hr : Row w b o ws) (hb : b < w.heap.size) (h1 : 2 ≤ ws.length) (h2 : ws.length ≤ 2000) (h : (nth ws 0 != 0) = false) (hh : nth ws 1 < 1 ∨ 10001 < nth ws 1) :
    Calls Try.prog 42 #[.agg #[.slice (some ⟨b, o, none⟩) ws.length c]] w fun e w' => e = .returned (fltV 2 1) ∧ Below w.heap.size w w' := by
  have hc0 := hr 0 (by omega)
  rw [Nat.add_zero] at hc0
  have hc1 := hr 1 (by omega)
  clear hr
  rcases hh with hh | hh
  all_goals
    go_enter Try.func42, Try.ntmps42
    go_wp2

    exact bodyPost_ret (v := fltV 2 1) (by simp [results, Try.results42, go_sem, fltV]) rfl ⟨rfl, ((Below.refl _ _).alloc (Nat.le_refl _) _).alloc (by simp) _⟩

/-- What the loop over the things knows at a place. -/
structure R2 (ws : List Int) (p : Nat) (pre : List Nat) : Prop where
  two : 2 ≤ p
  few : p ≤ 4000
  ok : badFrom ws p = none
  split_ : places ws = pre ++ plFrom ws p
  lt : ∀ q ∈ pre, q < p
  res : thingsF ws [] (places ws) = thingsF ws ((pre.map fun q => nth ws (q + 1)).reverse) (plFrom ws p)

theorem Row_drewN {w : World} {b o : Nat} {ws : List Int} (h : Row w b o ws) (m : Nat) : Row (w.drewN m) b o ws := fun j hj => by simpa using h j hj

theorem R2.next {ws : List Int} {q : Nat} {pre : List Nat} (h : R2 ws q pre) (hq : q < ws.length) (hb : badB ws q = false) (hn : badFrom ws (nxt ws q) = none) (hl : ws.length ≤ 2000)
    (h0 : thingF ws ((pre.map fun q => nth ws (q + 1)).reverse) q = (0, 0)) : R2 ws (nxt ws q) (pre ++ [q]) := by
  have hc := nxt_cast hb
  obtain ⟨n1, n2, n3, n4, n5⟩ := not_bad hb
  have hg := nxt_gt ws q
  refine ⟨by omega, by omega, hn, ?_, ?_, ?_⟩
  · rw [h.split_, plFrom_ok hq hb, List.append_assoc]; rfl
  · intro r hr
    rcases List.mem_append.1 hr with e | e
    · have := h.lt r e; omega
    · simp at e; omega
  · rw [h.res, thingsF_go hq hb (by rw [h0])]
    simp

theorem tw_no {ws : List Int} {q : Nat} {sn : List Int} {h : Int} (tw : Bool) (hp : ∀ h, anyH ws q 2 h = true ↔ h ∈ sn) (htw : (decide (h < 1) || decide (nth ws 1 ≤ h)) = tw)
    (he : false = (tw || anyH ws q 2 h)) : ¬ (h < 1 ∨ nth ws 1 ≤ h ∨ h ∈ sn) := by
  subst htw
  have := he.symm
  simp only [Bool.or_eq_false_iff, decide_eq_false_iff_not] at this
  obtain ⟨⟨a, b⟩, c⟩ := this
  rintro (e | e | e)
  · exact a e
  · exact b e
  · rw [(hp h).2 e] at c; cases c
theorem tw_yes {ws : List Int} {q : Nat} {sn : List Int} {h : Int} (tw : Bool) (hp : ∀ h, anyH ws q 2 h = true ↔ h ∈ sn) (htw : (decide (h < 1) || decide (nth ws 1 ≤ h)) = tw)
    (he : true = (tw || anyH ws q 2 h)) : h < 1 ∨ nth ws 1 ≤ h ∨ h ∈ sn := by
  subst htw
  have := he.symm
  simp only [Bool.or_eq_true, decide_eq_true_eq] at this
  rcases this with (e | e) | e
  · exact .inl e
  · exact .inr (.inl e)
  · exact .inr (.inr ((hp h).1 e))

set_option maxRecDepth 100000 in
set_option maxHeartbeats 4000000 in
theorem rcheck_main (ws : List Int) (b o c : Nat) (w : World) (hr : Row w b o ws) (hb : b < w.heap.size) (h1 : 2 ≤ ws.length) (h2 : ws.length ≤ 2000) (hw : I64 ws)
    (h : (nth ws 0 != 0) = false) (hh1 : ¬ nth ws 1 < 1) (hh2 : ¬ 10001 < nth ws 1) :
    Calls Try.prog 42 #[.agg #[.slice (some ⟨b, o, none⟩) ws.length c]] w fun e w' => e = .returned (fltV (checkF ws).1 (checkF ws).2) ∧ Below w.heap.size w w' := by
  have HCK1 := Lib.hid (fun p => checkF_bad (p := p) h1 h2 h hh1 hh2)
  have HCK2 := Lib.hid (checkF_none h1 h2 h hh1 hh2)
  have hc0 := hr 0 (by omega)
  rw [Nat.add_zero] at hc0
  have hc1 := hr 1 (by omega)
  have HR := Lib.hid hr; clear hr
  have HW := Lib.hid hw; clear hw
  go_enter Try.func42, Try.ntmps42
  go_wp2
  clear hc0 hc1 h hh1 hh2
  have hb0 : Below w.heap.size w ((w.alloc (.cells #[.slice (some ⟨b, o, none⟩) ws.length c] 33)).alloc (.cells #[.int .i64 0, .int .i64 0] 36)) :=
    ((Below.refl _ _).alloc (Nat.le_refl _) _).alloc (by simp) _
  have hf0 : Blk ((w.alloc (.cells #[.slice (some ⟨b, o, none⟩) ws.length c] 33)).alloc (.cells #[.int .i64 0, .int .i64 0] 36)) (w.heap.size + 1) 36 #[.int .i64 0, .int .i64 0] := by
    have hx := Blk.new (w.alloc (.cells #[.slice (some ⟨b, o, none⟩) ws.length c] 33)) 36 #[.int .i64 0, .int .i64 0]
    have e : (w.alloc (.cells #[.slice (some ⟨b, o, none⟩) ws.length c] 33)).heap.size = w.heap.size + 1 := by simp
    rw [e] at hx
    exact hx
  have hF0 : w.heap.size < w.heap.size + 1 := by omega
  generalize ((w.alloc (.cells #[.slice (some ⟨b, o, none⟩) ws.length c] 33)).alloc (.cells #[.int .i64 0, .int .i64 0] 36)) = W at *
  generalize w.heap.size + 1 = F at *
  have hrow : Row W b o ws := HR.out.below hb0 hb
  have HROW := Lib.hid hrow
  have HB0 := Lib.hid hb0
  have hk0 := hf0.cell 0
  have hk1 := hf0.cell 1
  have hkf := hf0.frozen 0
  have hkf1 := hf0.frozen 1
  have hFl := hf0.lt
  simp only [List.getElem?_toArray, List.getElem?_cons_zero, List.getElem?_cons_succ] at hk0 hk1
  clear hrow hb0 hf0
  go_loop [4] (fun i => ∃ p : Nat, p ≤ 4000 ∧ i = .int .i64 p ∧ bad1 ws = badFrom ws p) (fun i => ws.length - (intOf i).toNat)
  case atStart => exact ⟨2, by omega, rfl, bad1_eq ws⟩
  case round =>
    obtain ⟨p, hp, rfl, hbf⟩ := hrel
    have HBF := Lib.hid hbf; clear hbf
    obtain ⟨t1, t2⟩ := HW.out (p + 2)
    by_cases hlt : p < ws.length
    · cases hbad : badB ws p
      · obtain ⟨n1, n2, n3, n4, n5⟩ := not_bad hbad
        have hcell := HROW.out (p + 2) (by omega)
        have HBAD := Lib.hid hbad
        have hcast := Lib.hid (nxt_cast hbad)
        clear hbad
        go_wp2
        go_round
        case rel => exact ⟨nxt ws p, by have := hcast.out; omega, by rw [hcast.out], by rw [HBF.out]; exact badFrom_ok hlt HBAD.out⟩
        case measure => have := hcast.out; simp [intOf]; omega
      · have hck : checkF ws = (2, p) := HCK1.out p (by rw [HBF.out, badFrom_bad hlt hbad])
        have HCK := Lib.hid hck
        have hcs := bad_cases hbad
        have hcell : p + 2 < ws.length → W.cell? ⟨b, o + (p + 2), none⟩ = some (.int .i64 (nth ws (p + 2))) := fun h => HROW.out (p + 2) h
        clear hbad hck
        rcases hcs with n1 | ⟨n1, n2⟩ | ⟨n1, n2, n3⟩ | ⟨n1, n2, n3, n4⟩ | ⟨n1, n2, n3, n4, n5⟩
        · clear hcell
          go_wp2
          refine bodyPost_ret (v := fltV 2 p) (by simp [results, Try.results42, go_sem, fltV, hk0, hk1]) rfl ⟨by rw [HCK.out], ?_⟩
          repeat (first | exact HB0.out | refine Below.setCell ?_ (by simp; omega) _)
        all_goals
          replace hcell := hcell (by omega)
          go_wp2
          refine bodyPost_ret (v := fltV 2 p) (by simp [results, Try.results42, go_sem, fltV, hk0, hk1]) rfl ⟨by rw [HCK.out], ?_⟩
          repeat (first | exact HB0.out | refine Below.setCell ?_ (by simp; omega) _)
    · have hbd : bad1 ws = none := by rw [HBF.out, badFrom_end (by omega)]
      have HCK3 := Lib.hid (HCK2.out hbd)
      have HBD := Lib.hid hbd
      clear hbd
      clear t1 t2
      go_wp2
      go_loopw [5] (fun i wr => ∃ (p : Nat) (pre : List Nat) (m : Nat), i = .int .i64 p ∧ wr = W.drewN m ∧ R2 ws p pre) (fun i _ => ws.length - (intOf i).toNat)
      case atStart => exact ⟨2, [], 0, rfl, rfl, by omega, by omega, HBD.out, (places_eq ws).trans rfl, fun q hq => by simp at hq, rfl⟩
      case round =>
        obtain ⟨q, pre, m, rfl, rfl, hR⟩ := hrel
        have HR2 := Lib.hid hR; clear hR
        have hq4 := HR2.out.few
        have hq2 := HR2.out.two
        by_cases hql : q < ws.length
        · obtain ⟨hbad, hnx⟩ := badFrom_none HR2.out.ok hql
          obtain ⟨n1, n2, n3, n4, n5⟩ := not_bad hbad
          have HBAD := Lib.hid hbad
          have HNX := Lib.hid hnx
          have hcast := Lib.hid (nxt_cast hbad)
          have HPRE := Lib.hid (fun h => anyH_pre (h := h) HR2.out.split_ HR2.out.lt)
          clear hbad hnx
          have hce0 := HROW.out q (by omega)
          have hce1 := HROW.out (q + 1) (by omega)
          have hce2 := HROW.out (q + 2) (by omega)
          have hceh := HROW.out 1 (by omega)
          obtain ⟨t1, t2⟩ := HW.out q
          obtain ⟨t3, t4⟩ := HW.out (q + 1)
          obtain ⟨t5, t6⟩ := HW.out (q + 2)
          obtain ⟨t7, t8⟩ := HW.out 1
          generalize hsn : (pre.map fun q => nth ws (q + 1)).reverse = sn at *
          have HSN := Lib.hid hsn; clear hsn
          by_cases hcl : nth ws q ≠ 0 ∧ isTh ws (nth ws q) = false
          · have hck : checkF ws = (3, q) := by
              rw [HCK3.out, HR2.out.res, HSN.out, thingsF_halt hql HBAD.out (by rw [thingF_class hcl.1 hcl.2]; simp), thingF_class hcl.1 hcl.2]
            have HCK := Lib.hid hck; clear hck
            obtain ⟨hcl1, hcl2⟩ := hcl
            have hcl0 : (nth ws q != 0) = true := by simpa using hcl1
            clear hcl1
            go_wp2_with (go_at_call 85; refine (rthing_any ws b o c (W.drewN m) HROW.out HW.out (by omega) HBD.out _ (by omega) (by omega)).mono ?_; rintro e w' ⟨rfl, rfl⟩)
            refine bodyPost_ret (v := fltV 3 q) (by simp [results, Try.results42, go_sem, fltV, hk0, hk1]) rfl ⟨by rw [HCK.out], ?_⟩
            repeat (first | exact HB0.out.trans (belowN _ _ _) | refine Below.setCell ?_ (by simp; omega) _)
          · have hcl' : nth ws q = 0 ∨ isTh ws (nth ws q) = true := by
              cases hi : isTh ws (nth ws q)
              · exact .inl (Classical.byContradiction fun h => hcl ⟨h, hi⟩)
              · exact .inr rfl
            have hcb : ((nth ws q != 0) && !isTh ws (nth ws q)) = false := by
              rcases hcl' with e | e
              · rw [e]; rfl
              · rw [e]; simp
            have HCL := Lib.hid hcl'
            clear hcl hcl'
            go_upto_region 17 with (go_at_call 85; refine (rthing_any ws b o c (W.drewN m) HROW.out HW.out (by omega) HBD.out _ (by omega) (by omega)).mono ?_; rintro e w' ⟨rfl, rfl⟩)
            go_cut [125] (fun s wx => s = .bool false ∧ wx = W.drewN m)
            case first =>
              cases hx : (nth ws q != 0)
              · go_wp2
                all_goals go_meet
                all_goals exact ⟨rfl, rfl⟩
              · have hth : isTh ws (nth ws q) = true := by
                  rcases HCL.out with e | e
                  · rw [e] at hx; exact absurd hx (by decide)
                  · exact e
                go_wp2
                all_goals go_meet
                all_goals exact ⟨rfl, rfl⟩
            case rest =>
              obtain ⟨rfl, rfl⟩ := hcut
              go_wp2_with fail
              go_cut [7] (fun s wx => s = .bool (decide (nth ws (q + 1) < 1) || decide (nth ws 1 ≤ nth ws (q + 1))) ∧ ∃ k, wx = W.drewN k)
              case first =>
                have e1 : IntKind.i64.wrap ((q : Int) + 1) = (q : Int) + 1 := IntWalk.i64_in _ (by omega)
                have e2 : ((q : Int) + 1).toNat = q + 1 := by omega
                have e3 : 0 ≤ (q : Int) + 1 := by omega
                have e4 : (q : Int) + 1 < ws.length := by omega
                have e5 : (1 : Int) < ws.length := by omega
                by_cases hx : nth ws (q + 1) < 1
                · go_quiet (fail)
                  go_wp2
                  all_goals go_meet
                  all_goals exact ⟨by rw [decide_eq_true hx]; rfl, by first | exact ⟨_, rfl⟩ | exact ⟨_, World.drewN_drewN ..⟩⟩
                · have hd : decide (nth ws (q + 1) < 1) = false := decide_eq_false hx
                  go_quiet (fail)
                  go_wp2
                  all_goals go_meet
                  all_goals exact ⟨by rw [hd]; rfl, by first | exact ⟨_, rfl⟩ | exact ⟨_, World.drewN_drewN ..⟩⟩
              case rest =>
                obtain ⟨rfl, m2, rfl⟩ := hcut
                generalize htw : (decide (nth ws (q + 1) < 1) || decide (nth ws 1 ≤ nth ws (q + 1))) = tw at *
                have HTW := Lib.hid htw; clear htw
                go_wp2_with fail
                go_loopw [7, 8] (fun s7 s8 wr => ∃ (t : Bool) (r k : Nat), s7 = .bool t ∧ s8 = .int .i64 r ∧ wr = W.drewN k ∧ 2 ≤ r ∧ r ≤ 4000 ∧ badFrom ws r = none ∧ (t || anyH ws q r (nth ws (q + 1))) = (tw || anyH ws q 2 (nth ws (q + 1)))) (fun _ i _ => q - (intOf i).toNat)
                case atStart => exact ⟨tw, 2, m2, rfl, rfl, rfl, by omega, by omega, HBD.out, rfl⟩
                case round =>
                  obtain ⟨t, r, k, rfl, rfl, rfl, hr2, hr4, hrb, hrt⟩ := hrel
                  have HRT := Lib.hid hrt; clear hrt
                  by_cases hrq : r < q
                  · obtain ⟨rb, rn⟩ := badFrom_none hrb (by omega)
                    obtain ⟨k1, k2, k3, k4, k5⟩ := not_bad rb
                    have HRB := Lib.hid rb
                    have HRN := Lib.hid rn
                    have hrc := Lib.hid (nxt_cast rb)
                    clear rb rn hrb
                    have hs1 := HROW.out (r + 1) (by omega)
                    have hs2 := HROW.out (r + 2) (by omega)
                    obtain ⟨v1, v2⟩ := HW.out (r + 1)
                    obtain ⟨v3, v4⟩ := HW.out (r + 2)
                    have e1 : IntKind.i64.wrap ((q : Int) + 1) = (q : Int) + 1 := IntWalk.i64_in _ (by omega)
                    have e2 : ((q : Int) + 1).toNat = q + 1 := by omega
                    have e3 : 0 ≤ (q : Int) + 1 := by omega
                    have e4 : (q : Int) + 1 < ws.length := by omega
                    have f1 : IntKind.i64.wrap ((r : Int) + 1) = (r : Int) + 1 := IntWalk.i64_in _ (by omega)
                    have f2 : ((r : Int) + 1).toNat = r + 1 := by omega
                    have f3 : 0 ≤ (r : Int) + 1 := by omega
                    have f4 : (r : Int) + 1 < ws.length := by omega
                    cases t
                    · go_wp2_with fail
                      go_quiet (fail)
                      clear e1 e2 e3 e4 f1 f2 f3 f4
                      go_wp2
                      all_goals go_roundw
                      case rel => exact ⟨_, nxt ws r, _, rfl, by rw [hrc.out], rfl, by have := nxt_gt ws r; omega, by have := hrc.out; omega, HRN.out, by rw [← HRT.out, anyH_step (by omega) HRB.out hrq]; simp⟩
                      case measure => have := hrc.out; simp [intOf]; omega
                    · go_wp2_with fail
                      go_quiet (fail)
                      clear e1 e2 e3 e4 f1 f2 f3 f4
                      go_wp2
                      all_goals go_roundw
                      case rel => exact ⟨true, nxt ws r, _, rfl, by rw [hrc.out], rfl, by have := nxt_gt ws r; omega, by have := hrc.out; omega, HRN.out, by rw [← HRT.out]; simp⟩
                      case measure => have := hrc.out; simp [intOf]; omega
                  · have hend := anyH_end (ws := ws) (p := q) (b := r) (h := nth ws (q + 1)) (by omega)
                    have HT : t = (tw || anyH ws q 2 (nth ws (q + 1))) := by rw [← HRT.out, hend, Bool.or_false]
                    have HT' := Lib.hid HT
                    clear HT hend HRT
                    cases t
                    · have hok := Lib.hid (tw_no tw HPRE.out HTW.out HT'.out)
                      go_wp2_with fail
                      go_loopw [9] (fun s9 wr => ∃ j k : Nat, s9 = .int .i64 ((q : Int) + 3 + j) ∧ wr = W.drewN k ∧ j ≤ slotsN ws q ∧ bsFrom ws q j = bsFrom ws q 0) (fun i _ => q + 3 + slotsN ws q - (intOf i).toNat)
                      case atStart => exact ⟨0, _, by simp, rfl, Nat.zero_le _, rfl⟩
                      case round =>
                        obtain ⟨j, k, rfl, rfl, hj, hbs⟩ := hrel
                        have HBS := Lib.hid hbs; clear hbs
                        have hsl : (slotsN ws q : Int) = nth ws (q + 2) / 4 := by unfold slotsN; omega
                        by_cases hlt : j < slotsN ws q
                        · have e1 : IntKind.i64.wrap ((q : Int) + 2) = (q : Int) + 2 := IntWalk.i64_in _ (by omega)
                          have e2 : ((q : Int) + 2).toNat = q + 2 := by omega
                          have e3 : 0 ≤ (q : Int) + 2 := by omega
                          have e4 : (q : Int) + 2 < ws.length := by omega
                          have f2 : ((q : Int) + 3 + j).toNat = q + 3 + j := by omega
                          have f3 : 0 ≤ (q : Int) + 3 + j := by omega
                          have f4 : (q : Int) + 3 + j < ws.length := by omega
                          have hs1 := HROW.out (q + 3 + j) (by omega)
                          obtain ⟨v1, v2⟩ := HW.out (q + 3 + j)
                          have HST := Lib.hid (bsFrom_step hlt)
                          cases hst : standsB ws (formOf ws q) (nth ws (q + 3 + j))
                          all_goals
                            go_wp2_with fail
                            go_quiet ((go_at_call 93; exact quiet_add_left (rstands_any ws b o c _ (Row_drewN HROW.out _) HW.out (by omega) HBD.out (formOf ws q) (nth ws (q + 3 + j)) (by omega) (by omega))))
                            clear e1 e2 e3 e4 f2 f3 f4
                            go_wp2
                          · have hck : checkF ws = (3, q + 3 + j) := by
                              have hbs : bsFrom ws q 0 = some (q + 3 + j) := by rw [← HBS.out, HST.out, hst]; simp
                              rw [HCK3.out, HR2.out.res, HSN.out, thingsF_halt hql HBAD.out (by rw [thingF_slot HCL.out hok.out hbs]; simp), thingF_slot HCL.out hok.out hbs]
                            have HCK := Lib.hid hck; clear hck
                            refine bodyPost_ret (v := fltV 3 (q + 3 + j)) (by simp [results, Try.results42, go_sem, fltV, hk0, hk1]) rfl ⟨by rw [HCK.out], ?_⟩
                            repeat (first | exact HB0.out.trans (belowN _ _ _) | refine Below.setCell ?_ (by simp; omega) _)
                          · go_roundw
                            case rel => exact ⟨j + 1, _, by go_num, rfl, by omega, by rw [← HBS.out, HST.out, hst]; simp⟩
                            case measure => simp [intOf]; omega
                        · obtain rfl : j = slotsN ws q := by omega
                          have hok0 := thingF_ok HCL.out hok.out (HBS.out.symm.trans (bsFrom_end (Nat.le_refl _)))
                          have HNEXT := Lib.hid (R2.next HR2.out hql HBAD.out HNX.out (by omega) (by rw [HSN.out]; exact hok0))
                          clear hok0
                          go_wp2
                          go_roundw
                          case rel => exact ⟨nxt ws q, pre ++ [q], _, by rw [hcast.out], rfl, HNEXT.out⟩
                          case measure => have := hcast.out; simp [intOf]; omega
                    · have hno := tw_yes tw HPRE.out HTW.out HT'.out
                      have hck : checkF ws = (5, q) := by
                        rw [HCK3.out, HR2.out.res, HSN.out, thingsF_halt hql HBAD.out (by rw [thingF_hash HCL.out hno]; simp), thingF_hash HCL.out hno]
                      have HCK := Lib.hid hck; clear hck hno
                      go_wp2
                      refine bodyPost_ret (v := fltV 5 q) (by simp [results, Try.results42, go_sem, fltV, hk0, hk1]) rfl ⟨by rw [HCK.out], ?_⟩
                      repeat (first | exact HB0.out.trans (belowN _ _ _) | refine Below.setCell ?_ (by simp; omega) _)
        · have hck : checkF ws = (0, 0) := by
            rw [HCK3.out, HR2.out.res, plFrom_end (by omega)]; rfl
          have HCK := Lib.hid hck; clear hck
          go_wp2
          refine bodyPost_ret (v := fltV 0 0) (by simp [results, Try.results42, go_sem, fltV, hk0, hk1]) rfl ⟨by rw [HCK.out], ?_⟩
          repeat (first | exact HB0.out.trans (belowN _ _ _) | refine Below.setCell ?_ (by simp; omega) _)
theorem rcheck_any (ws : List Int) (A : Option Addr) (c : Nat) (w : World) (hA : Ints w A ws) (hw : I64 ws) (hl : ws.length ≤ 9223372036854775807) :
    Calls Try.prog 42 #[.agg #[.slice A ws.length c]] w fun e w' => e = .returned (fltV (checkF ws).1 (checkF ws).2) ∧ Below w.heap.size w w' := by
  by_cases h : ws.length < 2 ∨ 2000 < ws.length
  · have e : checkF ws = (1, 0) := by unfold checkF; rw [if_pos h]
    exact (rcheck_size ws A c w hl h).mono fun _ _ ⟨he, hb⟩ => ⟨by rw [e]; exact he, hb⟩
  have h1 : 2 ≤ ws.length := by omega
  have h2 : ws.length ≤ 2000 := by omega
  obtain ⟨b, o, rfl, hb, hr⟩ := hA (by omega)
  cases h0 : (nth ws 0 != 0)
  · by_cases hh : nth ws 1 < 1 ∨ 10001 < nth ws 1
    · have h0' : ¬ nth ws 0 ≠ 0 := by simpa using h0
      have e : checkF ws = (2, 1) := by unfold checkF; rw [if_neg h, if_neg h0', if_pos hh]
      exact (rcheck_hash ws b o c w hr hb h1 h2 h0 hh).mono fun _ _ ⟨he, hb'⟩ => ⟨by rw [e]; exact he, hb'⟩
    · exact rcheck_main ws b o c w hr hb h1 h2 hw h0 (fun h => hh (.inl h)) (fun h => hh (.inr h))
  · have h0' : nth ws 0 ≠ 0 := by simpa using h0
    have e : checkF ws = (2, 0) := by unfold checkF; rw [if_neg h, if_pos h0']
    exact (rcheck_head ws b o c w hr hb h1 h2 h0).mono fun _ _ ⟨he, hb'⟩ => ⟨by rw [e]; exact he, hb'⟩

end Go.Proofs.Ytjpppdacamhhfaa
