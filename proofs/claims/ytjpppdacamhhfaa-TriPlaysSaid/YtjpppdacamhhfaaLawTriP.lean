/- What TriPlays' code computes. Conditions: the words are numbers of 64 bits. -/
import Derived.Test.YtjpppdacamhhfaaMem2
import Derived.Test.YtjpppdacamhhfaaTsF
namespace Go.Proofs.Ytjpppdacamhhfaa
open Go.RowKit
set_option linter.unusedVariables false

theorem vastv_any (ws rs fr : List Int) (A B C : Option Addr) (c d c' : Nat) (w : World) :
    Calls Try.prog 53 #[.agg #[.slice A ws.length c], .slice B rs.length d, .slice C fr.length c'] w fun e w' => e = .returned (.bool (decide (5000 < ws.length) || decide (5000 < rs.length) || decide (5000 < fr.length))) ∧ Below w.heap.size w w' := by
  by_cases h1 : 5000 < ws.length
  · go_enter Try.func53, Try.ntmps53
    go_wp2
    go_ret
    exact ⟨ret_bool (by simp), (Below.refl _ _).alloc (Nat.le_refl _) _⟩
  · by_cases h2 : 5000 < rs.length
    · go_enter Try.func53, Try.ntmps53
      go_wp2
      go_ret
      exact ⟨ret_bool (by simp), (Below.refl _ _).alloc (Nat.le_refl _) _⟩
    · go_enter Try.func53, Try.ntmps53
      go_wp2
      go_ret
      exact ⟨ret_bool (by rw [decide_eq_decide.2 (show (5000 : Int) < (ws.length : Int) ↔ 5000 < ws.length by omega), decide_eq_decide.2 (show (5000 : Int) < (rs.length : Int) ↔ 5000 < rs.length by omega), decide_eq_decide.2 (show (5000 : Int) < (fr.length : Int) ↔ 5000 < fr.length by omega)]), (Below.refl _ _).alloc (Nat.le_refl _) _⟩

theorem vastk_any (ws rs fr : List Int) (A B C : Option Addr) (c d c' : Nat) (w : World) :
    Calls Try.prog 69 #[.agg #[.slice A ws.length c], .slice B rs.length d, .slice C fr.length c'] w fun e w' => e = .returned (.bool (decide (5000 < ws.length) || decide (5000 < rs.length) || decide (5000 < fr.length))) ∧ Below w.heap.size w w' := by
  by_cases h1 : 5000 < ws.length
  · go_enter Try.func69, Try.ntmps69
    go_wp2
    go_ret
    exact ⟨ret_bool (by simp), (Below.refl _ _).alloc (Nat.le_refl _) _⟩
  · by_cases h2 : 5000 < rs.length
    · go_enter Try.func69, Try.ntmps69
      go_wp2
      go_ret
      exact ⟨ret_bool (by simp), (Below.refl _ _).alloc (Nat.le_refl _) _⟩
    · go_enter Try.func69, Try.ntmps69
      go_wp2
      go_ret
      exact ⟨ret_bool (by rw [decide_eq_decide.2 (show (5000 : Int) < (ws.length : Int) ↔ 5000 < ws.length by omega), decide_eq_decide.2 (show (5000 : Int) < (rs.length : Int) ↔ 5000 < rs.length by omega), decide_eq_decide.2 (show (5000 : Int) < (fr.length : Int) ↔ 5000 < fr.length by omega)]), (Below.refl _ _).alloc (Nat.le_refl _) _⟩

/-- A row of the call's own, as a slice. -/
theorem own_ints' {w : World} {base n c : Nat} {A : Option Addr} {xs : List Int} (h : Own w base (.slice A n c) xs) : Ints w A xs ∧ n = xs.length ∧ n ≤ c := by
  obtain ⟨A', c', hv, hA, hc, hb⟩ := h.form2
  simp at hv
  obtain ⟨rfl, rfl, rfl⟩ := hv
  exact ⟨hA, rfl, hc⟩

end Go.Proofs.Ytjpppdacamhhfaa

namespace Go.Proofs.Ytjpppdacamhhfaa
open Go.RowKit
set_option linter.unusedVariables false

/-- A Play and a fault, laid. -/
theorem play_lay (w : World) (a b c d e f g : Value) : Below w.heap.size w ((w.alloc (.cells #[a, b, c, d, e] 93)).alloc (.cells #[f, g] 36)) ∧
    Blk ((w.alloc (.cells #[a, b, c, d, e] 93)).alloc (.cells #[f, g] 36)) w.heap.size 93 #[a, b, c, d, e] ∧ Blk ((w.alloc (.cells #[a, b, c, d, e] 93)).alloc (.cells #[f, g] 36)) (w.heap.size + 1) 36 #[f, g] := by
  refine ⟨((Below.refl _ _).alloc (Nat.le_refl _) _).alloc (by simp) _, (Blk.new w 93 #[a, b, c, d, e]).alloc _, ?_⟩
  have := Blk.new (w.alloc (.cells #[a, b, c, d, e] 93)) 36 #[f, g]
  rw [World.size_alloc] at this; exact this

set_option maxRecDepth 100000 in
set_option maxHeartbeats 4000000 in
theorem triPlays_walk (ws : List Int) (A : Option Addr) (c : Nat) (rs : List Int) (B : Option Addr) (d : Nat) (ops : List TOp) (C : Option Addr) (e0 : Nat) (w : World)
    (hA : Ints w A ws) (hcap : ws.length ≤ c) (hw : I64 ws) (hl : ws.length ≤ 9223372036854775807) (hB : Ints w B rs) (hcapB : rs.length ≤ d) (hr : I64 rs) (hrl : rs.length ≤ 9223372036854775807)
    (hC : Ops w C ops) (hcapC : ops.length ≤ e0) (hin : ∀ op ∈ ops, OpIn op) (hcl : ops.length ≤ 9223372036854775807) :
    Calls Try.prog 26 #[.agg #[.slice A ws.length c], .slice B rs.length d, .slice C ops.length e0] w fun e w' => e = .returned (.bool true) ∧ Below w.heap.size w w' := by
  have hx0 : Below w.heap.size w (w.alloc (.cells #[.slice A ws.length c] 33)) := (Below.refl _ _).alloc (Nat.le_refl _) _
  have HX0 := Lib.hid hx0
  have HA := Lib.hid (hA.below hx0); have HB := Lib.hid (hB.below hx0); have HC := Lib.hid (hC.below hx0)
  have HW := Lib.hid hw; have HRI := Lib.hid hr; have HIN := Lib.hid hin
  have HH := Lib.hid (Blk.new w 33 #[.slice A ws.length c])
  clear hx0 hA hB hC hw hr hin
  have hv := vastv_any ws rs [] A B none c d 0 (w.alloc (.cells #[.slice A ws.length c] 33))
  have HV := Lib.hid hv; clear hv
  by_cases hbig : 5000 < ws.length ∨ 5000 < rs.length
  · have hvv : (decide (5000 < ws.length) || decide (5000 < rs.length) || decide (5000 < ([] : List Int).length)) = true := by
      simp only [Bool.or_eq_true, decide_eq_true_eq]; omega
    rw [hvv] at HV
    clear hbig hvv
    go_enter Try.func26, Try.ntmps26
    go_wp2_with (go_at_call 53; refine HV.out.mono ?_; rintro e w1 ⟨rfl, hb1⟩; have HB1 := Lib.hid hb1; clear hb1)
    go_ret
    exact ⟨rfl, HX0.out.trans (HB1.out.mono (by simp))⟩
  have s1 : ws.length ≤ 5000 := by omega
  have s2 : rs.length ≤ 5000 := by omega
  have hvv : (decide (5000 < ws.length) || decide (5000 < rs.length) || decide (5000 < ([] : List Int).length)) = false := by
    simp only [Bool.or_eq_false_iff, decide_eq_false_iff_not, List.length_nil]; omega
  rw [hvv] at HV
  clear hvv hbig
  by_cases hmany : 500 < ops.length
  · go_enter Try.func26, Try.ntmps26
    go_wp2_with (go_at_call 53; refine HV.out.mono ?_; rintro e w1 ⟨rfl, hb1⟩; have HB1 := Lib.hid hb1; clear hb1)
    go_ret
    exact ⟨rfl, HX0.out.trans (HB1.out.mono (by simp))⟩
  have s3 : ops.length ≤ 500 := by omega
  clear hmany
  go_enter Try.func26, Try.ntmps26
  go_wp2_with fail
  refine HV.out.mono ?_
  rintro e w1 ⟨rfl, hb1⟩
  have HX1 := Lib.hid (HX0.out.trans (hb1.mono (by simp)))
  have HA1 := Lib.hid (HA.out.below hb1); have HB1 := Lib.hid (HB.out.below hb1); have HC1 := Lib.hid (HC.out.below hb1)
  have HH1 := Lib.hid (HH.out.below hb1 HH.out.lt)
  obtain ⟨x1, x2, x3⟩ := HH1.out.f1
  clear hb1
  go_wp2_with fail
  clear HV HA HB HC HH HX0
  by_cases h0 : (rootsF ws rs).1 = 0
  case neg =>
    refine (play_no ws rs ops A B C c d e0 w1 HA1.out hcap HW.out hl HB1.out HRI.out (by omega) h0).mono ?_
    rintro e w2 ⟨hb2, rfl⟩
    have HX2 := Lib.hid (HX1.out.trans (hb2.mono HX1.out.size))
    have HA2 := Lib.hid (HA1.out.below hb2); have HB2 := Lib.hid (HB1.out.below hb2)
    have HH2 := Lib.hid (HH1.out.below hb2 HH1.out.lt)
    have hne : ((rootsF ws rs).1 == 0) = false := by simpa using h0
    generalize hf : rootsF ws rs = f at *
    have HF := Lib.hid hf
    clear hf hb2 x1 x2 x3 h0
    obtain ⟨x1, x2, x3⟩ := HH2.out.f1
    obtain ⟨hx3, hp3, hk3⟩ := play_lay w2 (.slice none 0 0) (.slice none 0 0) (.slice none 0 0) (.bool false) (.slice none 0 0) (.int .i64 f.1) (.int .i64 (f.2 : Int))
    have HX3 := Lib.hid (HX2.out.trans (hx3.mono HX2.out.size))
    have HA3 := Lib.hid (HA2.out.below hx3); have HB3 := Lib.hid (HB2.out.below hx3); have HH3 := Lib.hid (HH2.out.below hx3 HH2.out.lt)
    have HP3 := Lib.hid hp3; have HK3 := Lib.hid hk3
    clear hx3 hp3 hk3
    unfold playV fltV
    go_wp2_with fail
    generalize ((w2.alloc (.cells #[.slice none 0 0, .slice none 0 0, .slice none 0 0, .bool false, .slice none 0 0] 93)).alloc (.cells #[.int .i64 f.1, .int .i64 (f.2 : Int)] 36)) = w3 at *
    generalize w2.heap.size = K at *
    refine (rroots_any ws rs A B c d w3 HA3.out HW.out hl HB3.out HRI.out hrl).mono ?_
    rintro e w4 ⟨rfl, hb4⟩
    rw [HF.out]
    have HX4 := Lib.hid (HX3.out.trans (hb4.mono HX3.out.size))
    have HP4 := Lib.hid (HP3.out.below hb4 HP3.out.lt); have HK4 := Lib.hid (HK3.out.below hb4 HK3.out.lt)
    have hx5 : Below w4.heap.size w4 (w4.alloc (.cells #[.int .i64 f.1, .int .i64 f.2] 36)) := (Below.refl _ _).alloc (Nat.le_refl _) _
    have HX5 := Lib.hid (HX4.out.trans (hx5.mono HX4.out.size))
    obtain ⟨p1, p2, p3, p4, p5, p6, p7, p8, p9, p10, p11⟩ := HP4.out.f5
    obtain ⟨k1, k2, k3, k4, k5⟩ := HK4.out.f2
    have hc2 : (f.1 != 0) = true := by simp only [bne, hne, Bool.not_false]
    clear hb4 hx5 x1 x2 x3
    unfold fltV
    go_wp2_with fail
    go_ret
    exact ⟨rfl, HX5.out⟩
  case pos =>
    have hrz := rootsF_zero h0
    obtain ⟨hokh, -, -, hfit, hz⟩ := hrz
    have HOK := Lib.hid hokh; have HFIT := Lib.hid hfit; have HZ := Lib.hid hz
    obtain ⟨htk, -, -⟩ := play_all hokh hfit ops
    have hsm := htk.ok.most
    have hrm : (playT ws rs ops).rs.length ≤ 6000 := by have h1 := fold_len ops (startT ws rs); have h2 : (startT ws rs).rs.length = rs.length := rfl; unfold playT; omega
    have hco : (colsL (playT ws rs ops)).length ≤ 2000 := by unfold colsL; rw [List.length_map]; have := places_le (playT ws rs ops).ws; omega
    have hfr : (freedL (playT ws rs ops)).length ≤ 2000 := by
      have h1 := places_le (playT ws rs ops).ws
      unfold freedL whiteL
      split
      · rw [List.length_map]; have := List.length_filter_le (fun p => (playT ws rs ops).col p == 0) (places (playT ws rs ops).ws); omega
      · simp
    have HSP := Lib.hid (fun (w : World) hA hB hC => splay_any ws rs ops A B C c d e0 w hA hcap HW.out hB (by omega) hC (by omega) HIN.out HOK.out HFIT.out)
    refine (play_yes ws rs ops A B C c d e0 w1 HA1.out hcap HW.out hl HB1.out HRI.out (by omega) HC1.out (by omega) HIN.out h0).mono ?_
    clear htk h0 hokh hfit hz
    generalize playT ws rs ops = S at *
    rintro e w2 ⟨hb2, A2, ca, B2, cb, C2, cc, J2, ce, rfl, ha2, -, hb22, hc22, he2⟩
    have HX2 := Lib.hid (HX1.out.trans (hb2.mono HX1.out.size))
    have HA2 := Lib.hid (HA1.out.below hb2); have HB2 := Lib.hid (HB1.out.below hb2); have HC2 := Lib.hid (HC1.out.below hb2)
    have HH2 := Lib.hid (HH1.out.below hb2 HH1.out.lt)
    obtain ⟨hx3, hp3, hk3⟩ := play_lay w2 (.slice A2 S.ws.length ca) (.slice B2 S.rs.length cb) (.slice C2 (colsL S).length cc) (.bool (doneB S)) (.slice J2 (freedL S).length ce) (.int .i64 0) (.int .i64 ((0 : Nat) : Int))
    have HX3 := Lib.hid (HX2.out.trans (hx3.mono HX2.out.size))
    have HA3 := Lib.hid (HA2.out.below hx3); have HB3 := Lib.hid (HB2.out.below hx3); have HC3 := Lib.hid (HC2.out.below hx3); have HH3 := Lib.hid (HH2.out.below hx3 HH2.out.lt)
    have HP3 := Lib.hid hp3; have HK3 := Lib.hid hk3
    have G1 := Lib.hid (ha2.below hx3); have G2 := Lib.hid (hb22.below hx3); have G3 := Lib.hid (hc22.below hx3); have G4 := Lib.hid (he2.below hx3)
    clear hx3 hp3 hk3 hb2 ha2 hb22 hc22 he2 x1 x2 x3
    obtain ⟨x1, x2, x3⟩ := HH2.out.f1
    generalize hws : S.ws = sw at *
    generalize hrs : S.rs = sr at *
    generalize hcs : colsL S = sc at *
    generalize hfs : freedL S = sf at *
    generalize hds : doneB S = dn at *
    have HSE : Hid (S.ws = sw ∧ S.rs = sr ∧ colsL S = sc ∧ freedL S = sf ∧ doneB S = dn) := ⟨hws, hrs, hcs, hfs, hds⟩
    clear hws hrs hcs hfs hds
    unfold playV fltV
    go_wp2_with fail
    generalize ((w2.alloc (.cells #[.slice A2 sw.length ca, .slice B2 sr.length cb, .slice C2 sc.length cc, .bool dn, .slice J2 sf.length ce] 93)).alloc (.cells #[.int .i64 0, .int .i64 ((0 : Nat) : Int)] 36)) = w3 at *
    generalize w2.heap.size = K at *
    refine (rroots_any ws rs A B c d w3 HA3.out HW.out hl HB3.out HRI.out hrl).mono ?_
    rintro e w4 ⟨rfl, hb4⟩
    rw [HZ.out]
    have hx5 : Below w4.heap.size w4 (w4.alloc (.cells #[.int .i64 0, .int .i64 ((0 : Nat) : Int)] 36)) := (Below.refl _ _).alloc (Nat.le_refl _) _
    have hb5 := hb4.trans (hx5.mono hb4.size)
    have HX5 := Lib.hid (HX3.out.trans (hb5.mono HX3.out.size))
    have HA5 := Lib.hid (HA3.out.below hb5); have HB5 := Lib.hid (HB3.out.below hb5); have HC5 := Lib.hid (HC3.out.below hb5); have HH5 := Lib.hid (HH3.out.below hb5 HH3.out.lt)
    have HP5 := Lib.hid (HP3.out.below hb5 HP3.out.lt); have HK5 := Lib.hid (HK3.out.below hb5 HK3.out.lt)
    have F1 := Lib.hid (G1.out.below hb5); have F2 := Lib.hid (G2.out.below hb5); have F3 := Lib.hid (G3.out.below hb5); have F4 := Lib.hid (G4.out.below hb5)
    obtain ⟨m1, m2, m3⟩ := (HH3.out.below hb4 HH3.out.lt).f1
    clear hx5 hb4 hb5 x1 x2 x3
    dsimp only at *
    unfold fltV
    go_wp2_with fail
    generalize (w4.alloc (.cells #[.int .i64 0, .int .i64 ((0 : Nat) : Int)] 36)) = w5 at *
    refine (HSP.out w5 HA5.out HB5.out HC5.out).mono ?_
    rintro e w6 ⟨hb6, A6, ca6, B6, cb6, C6, cc6, J6, ce6, rfl, ha6, -, hb66, hc66, he6⟩
    obtain ⟨q1, q2, q3, q4, q5⟩ := HSE.out
    rw [q1] at ha6; rw [q2] at hb66; rw [q3] at hc66; rw [q4] at he6
    unfold playV
    rw [q1, q2, q3, q4, q5]
    have hx7 : Below w6.heap.size w6 (w6.alloc (.cells #[.slice A6 sw.length ca6, .slice B6 sr.length cb6, .slice C6 sc.length cc6, .bool dn, .slice J6 sf.length ce6] 93)) := (Below.refl _ _).alloc (Nat.le_refl _) _
    have hb7 := hb6.trans (hx7.mono hb6.size)
    have HX7 := Lib.hid (HX5.out.trans (hb7.mono HX5.out.size))
    have HP7 := Lib.hid (HP5.out.below hb7 HP5.out.lt); have HK7 := Lib.hid (HK5.out.below hb7 HK5.out.lt)
    have HQ7 := Lib.hid (Blk.new w6 93 #[.slice A6 sw.length ca6, .slice B6 sr.length cb6, .slice C6 sc.length cc6, .bool dn, .slice J6 sf.length ce6])
    have D1 := Lib.hid (F1.out.below hb7); have D2 := Lib.hid (F2.out.below hb7); have D3 := Lib.hid (F3.out.below hb7); have D4 := Lib.hid (F4.out.below hb7)
    have E1 := Lib.hid (ha6.below hx7); have E2 := Lib.hid (hb66.below hx7); have E3 := Lib.hid (hc66.below hx7); have E4 := Lib.hid (he6.below hx7)
    obtain ⟨p1, p2, p3, p4, p5, -, -, -, -, -, p11⟩ := (HP5.out.below hb6 HP5.out.lt).f5
    clear hx7 hb6 hb7 ha6 hb66 hc66 he6 q1 q2 q3 q4 q5 m1 m2 m3 HSE HSP
    go_wp2_with fail
    generalize (w6.alloc (.cells #[.slice A6 sw.length ca6, .slice B6 sr.length cb6, .slice C6 sc.length cc6, .bool dn, .slice J6 sf.length ce6] 93)) = w7 at *
    generalize w6.heap.size = Q at *
    have h48 := heaps_any sw sw A2 A6 ca ca6 w7 D1.out E1.out (by omega)
    rw [eqB_self] at h48
    refine h48.mono ?_
    rintro e w8 ⟨rfl, hb8⟩
    have HX8 := Lib.hid (HX7.out.trans (hb8.mono HX7.out.size))
    have HP8 := Lib.hid (HP7.out.below hb8 HP7.out.lt); have HK8 := Lib.hid (HK7.out.below hb8 HK7.out.lt); have HQ8 := Lib.hid (HQ7.out.below hb8 HQ7.out.lt)
    have D2' := Lib.hid (D2.out.below hb8); have D3' := Lib.hid (D3.out.below hb8); have D4' := Lib.hid (D4.out.below hb8)
    have E2' := Lib.hid (E2.out.below hb8); have E3' := Lib.hid (E3.out.below hb8); have E4' := Lib.hid (E4.out.below hb8)
    clear h48 hb8 p1 p2 p3 p4 p5 p11
    obtain ⟨p1, p2, p3, p4, p5, -⟩ := HP8.out.f5
    obtain ⟨q1, q2, q3, q4, q5, -⟩ := HQ8.out.f5
    go_wp2_with fail
    have h45 := ints_any sr sr B2 B6 cb cb6 w8 D2'.out E2'.out (by omega)
    rw [eqB_self] at h45
    refine h45.mono ?_
    rintro e w9 ⟨rfl, n, rfl⟩
    have hb9 := belowN w8.heap.size w8 n
    have HX9 := Lib.hid (HX8.out.trans (hb9.mono HX8.out.size))
    have HP9 := Lib.hid (HP8.out.below hb9 HP8.out.lt); have HK9 := Lib.hid (HK8.out.below hb9 HK8.out.lt); have HQ9 := Lib.hid (HQ8.out.below hb9 HQ8.out.lt)
    have D3'' := Lib.hid (D3'.out.below hb9); have D4'' := Lib.hid (D4'.out.below hb9)
    have E3'' := Lib.hid (E3'.out.below hb9); have E4'' := Lib.hid (E4'.out.below hb9)
    clear h45 hb9
    go_wp2_with fail
    generalize w8.drewN n = w9 at *
    have h45 := ints_any sc sc C2 C6 cc cc6 w9 D3''.out E3''.out (by omega)
    rw [eqB_self] at h45
    refine h45.mono ?_
    rintro e w10 ⟨rfl, n2, rfl⟩
    have hb10 := belowN w9.heap.size w9 n2
    have HX10 := Lib.hid (HX9.out.trans (hb10.mono HX9.out.size))
    have HP10 := Lib.hid (HP9.out.below hb10 HP9.out.lt); have HK10 := Lib.hid (HK9.out.below hb10 HK9.out.lt); have HQ10 := Lib.hid (HQ9.out.below hb10 HQ9.out.lt)
    have D5 := Lib.hid (D4''.out.below hb10)
    have E5 := Lib.hid (E4''.out.below hb10)
    clear h45 hb10 p1 p2 p3 p4 p5 q1 q2 q3 q4 q5
    generalize w9.drewN n2 = w10 at *
    obtain ⟨p1, p2, p3, p4, p5, -⟩ := HP10.out.f5
    obtain ⟨q1, q2, q3, q4, q5, -⟩ := HQ10.out.f5
    go_wp2_with fail
    have h45 := ints_any sf sf J2 J6 ce ce6 w10 D5.out E5.out (by omega)
    rw [eqB_self] at h45
    refine h45.mono ?_
    rintro e w11 ⟨rfl, n3, rfl⟩
    have hb11 := belowN w10.heap.size w10 n3
    have HX11 := Lib.hid (HX10.out.trans (hb11.mono HX10.out.size))
    obtain ⟨k1, k2, -⟩ := HK10.out.f2
    clear h45 hb11
    have hdd : (dn == dn) = true := by simp
    cases dn
    all_goals
      go_wp2_with fail
      go_ret
      exact ⟨rfl, HX11.out⟩
end Go.Proofs.Ytjpppdacamhhfaa
