/- What TriHolds' code computes. Conditions: the words are numbers of 64 bits. -/
import Derived.Test.YtjpppdacamhhfaaTrG
import Derived.Test.YtjpppdacamhhfaaTrSpec4
import Derived.Test.YtjpppdacamhhfaaRReach
import Derived.Deep.RegionHeld3
import Derived.Test.YtjpppdacamhhfaaVast
namespace Go.Proofs.Ytjpppdacamhhfaa
open Go.RowKit
set_option linter.unusedVariables false

theorem badRoot_all2 {ws rs : List Int} : ∀ (n i : Nat), (∀ j, j < n → fitsB ws (nth rs (i + j)) = true) → badRoot ws rs n i = none
  | 0, _, _ => rfl
  | n + 1, i, h => by
    unfold badRoot
    have h0 := h 0 (by omega)
    rw [Nat.add_zero] at h0
    rw [if_pos h0]
    exact badRoot_all2 n (i + 1) fun j hj => by
      have := h (j + 1) (by omega)
      rwa [show i + 1 + j = i + (j + 1) from by omega]
theorem roots_ok2 {ws rs : List Int} (hok : OkH ws) (hr : ∀ o ∈ rs, fitsB ws o = true) : rootsF ws rs = (0, 0) := by
  refine rootsF_ok (okB_iff.2 hok) ?_
  unfold brFrom
  exact badRoot_all2 _ _ fun j hj => hr _ (by rw [Nat.zero_add, nth_eq (by omega)]; exact List.getElem_mem _)
/-- A Play and a fault, laid. -/
theorem play_lay (w : World) (a b c d e f g : Value) : Below w.heap.size w ((w.alloc (.cells #[a, b, c, d, e] 93)).alloc (.cells #[f, g] 36)) ∧
    Blk ((w.alloc (.cells #[a, b, c, d, e] 93)).alloc (.cells #[f, g] 36)) w.heap.size 93 #[a, b, c, d, e] ∧ Blk ((w.alloc (.cells #[a, b, c, d, e] 93)).alloc (.cells #[f, g] 36)) (w.heap.size + 1) 36 #[f, g] := by
  refine ⟨((Below.refl _ _).alloc (Nat.le_refl _) _).alloc (by simp) _, (Blk.new w 93 #[a, b, c, d, e]).alloc _, ?_⟩
  have := Blk.new (w.alloc (.cells #[a, b, c, d, e] 93)) 36 #[f, g]
  rw [World.size_alloc] at this; exact this

set_option maxRecDepth 100000 in
set_option maxHeartbeats 4000000 in
theorem triHolds_walk (ws : List Int) (A : Option Addr) (c : Nat) (rs : List Int) (B : Option Addr) (d : Nat) (ops : List TOp) (C : Option Addr) (e0 : Nat) (w : World)
    (hA : Ints w A ws) (hcap : ws.length ≤ c) (hw : I64 ws) (hl : ws.length ≤ 9223372036854775807) (hB : Ints w B rs) (hcapB : rs.length ≤ d) (hr : I64 rs) (hrl : rs.length ≤ 9223372036854775807)
    (hC : Ops w C ops) (hcapC : ops.length ≤ e0) (hin : ∀ op ∈ ops, OpIn op) (hcl : ops.length ≤ 9223372036854775807) :
    Calls Try.prog 25 #[.agg #[.slice A ws.length c], .slice B rs.length d, .slice C ops.length e0] w fun e w' => e = .returned (.bool true) ∧ Below w.heap.size w w' := by
  have hx0 : Below w.heap.size w (w.alloc (.cells #[.slice A ws.length c] 33)) := (Below.refl _ _).alloc (Nat.le_refl _) _
  have HX0 := Lib.hid hx0
  have HA := Lib.hid (hA.below hx0); have HB := Lib.hid (hB.below hx0); have HC := Lib.hid (hC.below hx0)
  have HW := Lib.hid hw; have HRI := Lib.hid hr; have HIN := Lib.hid hin
  have HH := Lib.hid (Blk.new w 33 #[.slice A ws.length c])
  clear hx0 hA hB hC hw hr hin
  have hv := vastv_any ws rs [] A B none c d 0 (w.alloc (.cells #[.slice A ws.length c] 33))
  have HV := Lib.hid hv; clear hv
  by_cases hbig : 5000 < ws.length ∨ 5000 < rs.length
  · have hvv : (decide (5000 < ws.length) || decide (5000 < rs.length) || decide (5000 < ([] : List Int).length)) = true := by
      simp only [Bool.or_eq_true, decide_eq_true_eq]; omega
    rw [hvv] at HV
    clear hbig hvv
    go_enter Try.func25, Try.ntmps25
    go_wp2_with (go_at_call 53; refine HV.out.mono ?_; rintro e w1 ⟨rfl, hb1⟩; have HB1 := Lib.hid hb1; clear hb1)
    go_ret
    exact ⟨rfl, HX0.out.trans (HB1.out.mono (by simp))⟩
  have s1 : ws.length ≤ 5000 := by omega
  have s2 : rs.length ≤ 5000 := by omega
  have hvv : (decide (5000 < ws.length) || decide (5000 < rs.length) || decide (5000 < ([] : List Int).length)) = false := by
    simp only [Bool.or_eq_false_iff, decide_eq_false_iff_not, List.length_nil]; omega
  rw [hvv] at HV
  clear hvv hbig
  by_cases hmany : 500 < ops.length
  · go_enter Try.func25, Try.ntmps25
    go_wp2_with (go_at_call 53; refine HV.out.mono ?_; rintro e w1 ⟨rfl, hb1⟩; have HB1 := Lib.hid hb1; clear hb1)
    go_ret
    exact ⟨rfl, HX0.out.trans (HB1.out.mono (by simp))⟩
  have s3 : ops.length ≤ 500 := by omega
  clear hmany
  go_enter Try.func25, Try.ntmps25
  go_wp2_with fail
  refine HV.out.mono ?_
  rintro e w1 ⟨rfl, hb1⟩
  have HX1 := Lib.hid (HX0.out.trans (hb1.mono (by simp)))
  have HA1 := Lib.hid (HA.out.below hb1); have HB1 := Lib.hid (HB.out.below hb1); have HC1 := Lib.hid (HC.out.below hb1)
  have HH1 := Lib.hid (HH.out.below hb1 HH.out.lt)
  obtain ⟨x1, x2, x3⟩ := HH1.out.f1
  clear hb1
  go_wp2_with fail
  clear HV HA HB HC HH HX0
  by_cases h0 : (rootsF ws rs).1 = 0
  case neg =>
    refine (play_no ws rs ops A B C c d e0 w1 HA1.out hcap HW.out hl HB1.out HRI.out (by omega) h0).mono ?_
    rintro e w2 ⟨hb2, rfl⟩
    have HX2 := Lib.hid (HX1.out.trans (hb2.mono HX1.out.size))
    have HA2 := Lib.hid (HA1.out.below hb2); have HB2 := Lib.hid (HB1.out.below hb2)
    have HH2 := Lib.hid (HH1.out.below hb2 HH1.out.lt)
    have hne : ((rootsF ws rs).1 == 0) = false := by simpa using h0
    generalize hf : rootsF ws rs = f at *
    have HF := Lib.hid hf
    clear hf hb2 x1 x2 x3 h0
    obtain ⟨x1, x2, x3⟩ := HH2.out.f1
    obtain ⟨hx3, hp3, hk3⟩ := play_lay w2 (.slice none 0 0) (.slice none 0 0) (.slice none 0 0) (.bool false) (.slice none 0 0) (.int .i64 f.1) (.int .i64 (f.2 : Int))
    have HX3 := Lib.hid (HX2.out.trans (hx3.mono HX2.out.size))
    have HA3 := Lib.hid (HA2.out.below hx3); have HB3 := Lib.hid (HB2.out.below hx3); have HH3 := Lib.hid (HH2.out.below hx3 HH2.out.lt)
    have HP3 := Lib.hid hp3; have HK3 := Lib.hid hk3
    clear hx3 hp3 hk3
    unfold playV fltV
    go_wp2_with fail
    generalize ((w2.alloc (.cells #[.slice none 0 0, .slice none 0 0, .slice none 0 0, .bool false, .slice none 0 0] 93)).alloc (.cells #[.int .i64 f.1, .int .i64 (f.2 : Int)] 36)) = w3 at *
    generalize w2.heap.size = K at *
    refine (rroots_any ws rs A B c d w3 HA3.out HW.out hl HB3.out HRI.out hrl).mono ?_
    rintro e w4 ⟨rfl, hb4⟩
    rw [HF.out]
    have HX4 := Lib.hid (HX3.out.trans (hb4.mono HX3.out.size))
    have HP4 := Lib.hid (HP3.out.below hb4 HP3.out.lt); have HK4 := Lib.hid (HK3.out.below hb4 HK3.out.lt)
    have hx5 : Below w4.heap.size w4 (w4.alloc (.cells #[.int .i64 f.1, .int .i64 f.2] 36)) := (Below.refl _ _).alloc (Nat.le_refl _) _
    have HX5 := Lib.hid (HX4.out.trans (hx5.mono HX4.out.size))
    obtain ⟨p1, p2, p3, p4, p5, p6, p7, p8, p9, p10, p11⟩ := HP4.out.f5
    obtain ⟨k1, k2, k3, k4, k5⟩ := HK4.out.f2
    have hc2 : (f.1 != 0) = true := by simp only [bne, hne, Bool.not_false]
    clear hb4 hx5 x1 x2 x3
    unfold fltV
    go_wp2_with fail
    go_ret
    exact ⟨rfl, HX5.out⟩
  case pos =>
    have hrz := rootsF_zero h0
    obtain ⟨hokh, -, -, hfit, hz⟩ := hrz
    have HOK := Lib.hid hokh; have HFIT := Lib.hid hfit; have HZ := Lib.hid hz
    obtain ⟨htk, hia, hib⟩ := play_all hokh hfit ops
    obtain ⟨hiw, hir⟩ := play_i64 hokh hfit HW.out HRI.out HIN.out
    have hsm := htk.ok.most
    have hst := htk.ok.two
    have hqm := hokh.most
    have hqt := hokh.two
    have hrm : (playT ws rs ops).rs.length ≤ 6000 := by have h1 := fold_len ops (startT ws rs); have h2 : (startT ws rs).rs.length = rs.length := rfl; unfold playT; omega
    have hfr : (freedL (playT ws rs ops)).length ≤ 2000 := by
      have h1 := places_le (playT ws rs ops).ws
      unfold freedL whiteL
      split
      · rw [List.length_map]; have := List.length_filter_le (fun p => (playT ws rs ops).col p == 0) (places (playT ws rs ops).ws); omega
      · simp
    have hle := hib.len
    refine (play_yes ws rs ops A B C c d e0 w1 HA1.out hcap HW.out hl HB1.out HRI.out (by omega) HC1.out (by omega) HIN.out h0).mono ?_
    have HTK := Lib.hid htk; have HIA := Lib.hid hia; have HIB := Lib.hid hib; have HIW := Lib.hid hiw; have HIR := Lib.hid hir
    have HRS := Lib.hid (roots_ok2 htk.ok htk.fit)
    clear htk h0 hokh hfit hz hia hib hiw hir
    generalize playT ws rs ops = S at *
    rintro e w2 ⟨hb2, A2, ca, B2, cb, C2, cc, J2, ce, rfl, ha2, -, hb22, -, he2⟩
    have HX2 := Lib.hid (HX1.out.trans (hb2.mono HX1.out.size))
    have HA2 := Lib.hid (HA1.out.below hb2); have HB2 := Lib.hid (HB1.out.below hb2)
    have HH2 := Lib.hid (HH1.out.below hb2 HH1.out.lt)
    obtain ⟨hx3, hp3, hk3⟩ := play_lay w2 (.slice A2 S.ws.length ca) (.slice B2 S.rs.length cb) (.slice C2 (colsL S).length cc) (.bool (doneB S)) (.slice J2 (freedL S).length ce) (.int .i64 0) (.int .i64 ((0 : Nat) : Int))
    have HX3 := Lib.hid (HX2.out.trans (hx3.mono HX2.out.size))
    have HA3 := Lib.hid (HA2.out.below hx3); have HB3 := Lib.hid (HB2.out.below hx3); have HH3 := Lib.hid (HH2.out.below hx3 HH2.out.lt)
    have HP3 := Lib.hid hp3; have HK3 := Lib.hid hk3
    have G1 := Lib.hid (ha2.below hx3); have G2 := Lib.hid (hb22.below hx3); have G4 := Lib.hid (he2.below hx3)
    clear hx3 hp3 hk3 hb2 ha2 hb22 he2 x1 x2 x3
    obtain ⟨x1, x2, x3⟩ := HH2.out.f1
    have HFT := Lib.hid (fun o (h : o ∈ freedL S) => freed_th HTK.out h)
    have HFB := Lib.hid (fun (f : Nat → Bool) (hf : Tells S.ws S.rs f) (p : Nat) (h : f p = true) (hd : doneB S = true) => holds_black HTK.out HIA.out hd hf h)
    have HFW := Lib.hid (fun (g : Nat → Bool) (hg : Tells ws rs g) (p : Nat) (hp : p ∈ places S.ws) (hl : p < ws.length) (h : g p = false) (hd : doneB S = true) => holds_white HIB.out hd hg hp hl h)
    have hfn : doneB S = false → (freedL S).length = 0 := fun h => by rw [freed_not h]; rfl
    have HOS := Lib.hid HTK.out.ok; have HFS := Lib.hid HTK.out.fit
    clear HTK HIA HIB
    generalize hws : S.ws = sw at *
    generalize hrs : S.rs = sr at *
    generalize colsL S = sc at *
    generalize hfs : freedL S = sf at *
    generalize hds : doneB S = dn at *
    clear hws hrs hfs hds
    unfold playV fltV
    go_wp2_with fail
    generalize ((w2.alloc (.cells #[.slice A2 sw.length ca, .slice B2 sr.length cb, .slice C2 sc.length cc, .bool dn, .slice J2 sf.length ce] 93)).alloc (.cells #[.int .i64 0, .int .i64 ((0 : Nat) : Int)] 36)) = w3 at *
    generalize w2.heap.size = K at *
    refine (rroots_any ws rs A B c d w3 HA3.out HW.out hl HB3.out HRI.out hrl).mono ?_
    rintro e w4 ⟨rfl, hb4⟩
    rw [HZ.out]
    have hx5 : Below w4.heap.size w4 (w4.alloc (.cells #[.int .i64 0, .int .i64 ((0 : Nat) : Int)] 36)) := (Below.refl _ _).alloc (Nat.le_refl _) _
    have hb5 := hb4.trans (hx5.mono hb4.size)
    have HX5 := Lib.hid (HX3.out.trans (hb5.mono HX3.out.size))
    have HA5 := Lib.hid (HA3.out.below hb5); have HB5 := Lib.hid (HB3.out.below hb5); have HH5 := Lib.hid (HH3.out.below hb5 HH3.out.lt)
    have HP5 := Lib.hid (HP3.out.below hb5 HP3.out.lt); have HK5 := Lib.hid (HK3.out.below hb5 HK3.out.lt)
    have F1 := Lib.hid (G1.out.below hb5); have F2 := Lib.hid (G2.out.below hb5); have F4 := Lib.hid (G4.out.below hb5)
    have HQ5 := Lib.hid (Blk.new w4 36 #[.int .i64 0, .int .i64 ((0 : Nat) : Int)])
    obtain ⟨m1, m2, m3⟩ := (HH3.out.below hb4 HH3.out.lt).f1
    obtain ⟨p1, p2, p3, p4, p5, -, -, -, -, -, p11⟩ := (HP3.out.below hb4 HP3.out.lt).f5
    clear hx5 hb4 hb5 x1 x2 x3
    dsimp only at *
    unfold fltV
    go_wp2_with fail
    generalize (w4.alloc (.cells #[.int .i64 0, .int .i64 ((0 : Nat) : Int)] 36)) = w5 at *
    generalize w4.heap.size = K4 at *
    clear m1 m2 m3 p1 p2 p3 p4 p5 p11
    refine (rroots_any sw sr A2 B2 ca cb w5 F1.out HIW.out (by omega) F2.out HIR.out (by omega)).mono ?_
    rintro e w6 ⟨rfl, hb6⟩
    rw [HRS.out]
    have hx7 : Below w6.heap.size w6 (w6.alloc (.cells #[.int .i64 0, .int .i64 ((0 : Nat) : Int)] 36)) := (Below.refl _ _).alloc (Nat.le_refl _) _
    have hb7 := hb6.trans (hx7.mono hb6.size)
    have HX7 := Lib.hid (HX5.out.trans (hb7.mono HX5.out.size))
    have HA7 := Lib.hid (HA5.out.below hb7); have HB7 := Lib.hid (HB5.out.below hb7); have HH7 := Lib.hid (HH5.out.below hb7 HH5.out.lt)
    have HP7 := Lib.hid (HP5.out.below hb7 HP5.out.lt); have HK7 := Lib.hid (HK5.out.below hb7 HK5.out.lt)
    have D1 := Lib.hid (F1.out.below hb7); have D2 := Lib.hid (F2.out.below hb7); have D4 := Lib.hid (F4.out.below hb7)
    obtain ⟨m1, m2, m3⟩ := (HH5.out.below hb6 HH5.out.lt).f1
    obtain ⟨p1, p2, p3, p4, p5, -, -, -, -, -, p11⟩ := (HP5.out.below hb6 HP5.out.lt).f5
    obtain ⟨k1, k2, -, -, k5⟩ := (HK5.out.below hb6 HK5.out.lt).f2
    have hlt7 : decide ((sw.length : Int) < ws.length) = false := decide_eq_false (by omega)
    clear hx7 hb6 hb7
    unfold fltV
    cases dn
    · have hf0 := hfn rfl
      go_wp2_with fail
      go_ret
      exact ⟨rfl, HX7.out⟩
    clear hfn
    go_wp2_with fail
    generalize (w6.alloc (.cells #[.int .i64 0, .int .i64 ((0 : Nat) : Int)] 36)) = w7 at *
    generalize w6.heap.size = K6 at *
    clear m1 m2 m3 p1 p2 p3 p4 p5 p11 k1 k2 k5 hlt7
    obtain ⟨b2, o2, rfl, hl2, hr2⟩ := D1.out (by omega)
    obtain ⟨b, ob, rfl, hlb, hrb⟩ := HA7.out (by omega)
    refine (rreach_any sw sr b2 o2 ca B2 cb w7 hr2 hl2 HOS.out HIW.out D2.out HIR.out (by omega) HFS.out).mono ?_
    rintro e w8 ⟨f8, G8, hT8, rfl, hO8, hb8⟩
    have HT8 := Lib.hid hT8
    have HX8 := Lib.hid (HX7.out.trans (hb8.mono HX7.out.size))
    have HB8 := Lib.hid (HB7.out.below hb8); have HH8 := Lib.hid (HH7.out.below hb8 HH7.out.lt)
    have HP8 := Lib.hid (HP7.out.below hb8 HP7.out.lt)
    have HR8 := Lib.hid (Row.below hr2 hb8 hl2); have HRB8 := Lib.hid (Row.below hrb hb8 hlb)
    have E4 := Lib.hid (D4.out.below hb8)
    have hl28 : b2 < w8.heap.size := Nat.lt_of_lt_of_le hl2 hb8.size
    have hlb8 : b < w8.heap.size := Nat.lt_of_lt_of_le hlb hb8.size
    have HO8 := Lib.hid hO8
    have hG8 := hO8.block.2
    clear hT8 hb8 hO8 hr2 hrb
    obtain ⟨m1, m2, m3⟩ := HH8.out.f1
    go_wp2_with fail
    clear m1 m2 m3
    refine (rreach_any ws rs b ob c B d w8 HRB8.out hlb8 HOK.out HW.out HB8.out HRI.out (by omega) HFIT.out).mono ?_
    rintro e w9 ⟨g9, G9, hT9, rfl, hO9, hb9⟩
    have HT9 := Lib.hid hT9
    have HX9 := Lib.hid (HX8.out.trans (hb9.mono HX8.out.size))
    have HP9 := Lib.hid (HP8.out.below hb9 HP8.out.lt)
    have HR9 := Lib.hid (HR8.out.below hb9 hl28)
    have L4 := Lib.hid (E4.out.below hb9)
    have HO89 := Lib.hid (HO8.out.below hb9 (fun k hk => by cases hk; exact hG8))
    have HO9 := Lib.hid hO9
    have hl29 : b2 < w9.heap.size := Nat.lt_of_lt_of_le hl28 hb9.size
    have hG89 : G8 < w9.heap.size := Nat.lt_of_lt_of_le hG8 hb9.size
    have hG9 := hO9.block.2
    clear hT9 hb9 hO9 HR8 HRB8 E4 HO8 HB8 HH8
    obtain ⟨p1, p2, p3, p4, p5, -, -, -, -, -, p11⟩ := HP9.out.f5
    go_wp2_with (at_make; refine wpList_falses rfl _ _ rfl w9.heap.size sw.length rfl rfl (by omega) (Nat.le_refl _) ?_; intro w10 hown10 hgr10; have HO10 := Lib.hid hown10; have hb10 := (Below.refl w9.heap.size w9).grown hgr10 (Nat.le_refl _) (fun k hk => nomatch hk); have HB10 := Lib.hid hb10; clear hown10 hgr10 hb10)
    clear p1 p2 p3 p4 p5 p11
    have HBR := Lib.hid (fun (wr : World) (h : w10.grownBy wr (some w9.heap.size)) => HB10.out.grown h HB10.out.size (fun k hk => by cases hk; omega))
    go_loopw [14] (fun i wr => ∃ j : Nat, i = .int .i64 (j : Int) ∧ j ≤ sf.length ∧ w10.grownBy wr (some w9.heap.size) ∧ OwnB wr w9.heap.size (.slice (some ⟨w9.heap.size, 0, none⟩) sw.length sw.length) (marked (sf.take j)) sw.length) (fun i _ => sf.length - (intOf i).toNat)
    case atStart => exact ⟨0, rfl, Nat.zero_le _, World.grownBy.refl _ _, HO10.out⟩
    case round =>
      obtain ⟨j, rfl, hj, hgr, hown⟩ := hrel
      have HGR := Lib.hid hgr; have HOW := Lib.hid hown
      have HBJ := Lib.hid (HBR.out _ hgr)
      have HPJ := Lib.hid (HP9.out.below HBJ.out HP9.out.lt)
      have HRJ := Lib.hid (HR9.out.below HBJ.out hl29)
      clear hgr hown
      obtain ⟨p1, p2, p3, p4, p5, -, -, -, -, -, p11⟩ := HPJ.out.f5
      by_cases hjl : j < sf.length
      · obtain ⟨bj, oj, hJ, hlj, hrj⟩ := L4.out (by omega)
        subst hJ
        have hcj := (Row.below hrj HBJ.out hlj) j hjl
        have hth := HFT.out (nth sf j) (by rw [nth_eq hjl]; exact List.getElem_mem _)
        obtain ⟨q1, q2, q3, q4⟩ := isTh_mem hth
        obtain ⟨q5, q6, -⟩ := places_mem q1
        have HTH := Lib.hid (rthing_any sw b2 o2 ca wr.drew HRJ.out HIW.out (by omega) HOS.out.bad (nth sf j) (by omega) (by omega))
        have hmk : marked (sf.take (j + 1)) = put1 (marked (sf.take j)) (nth sf j / 2).toNat := by rw [List.take_succ_eq_append_getElem hjl, marked_snoc, ← nth_eq hjl]; rfl
        have HPUT := Lib.hid (HOW.out.put (nth sf j / 2).toNat)
        rw [← hmk] at HPUT
        have hcc := HOW.out.cell (nth sf j / 2).toNat q6
        have hff := HOW.out.frz (nth sf j / 2).toNat
        have e2 : nth sf j / 2 < (sw.length : Int) := by omega
        have e3 : 0 ≤ nth sf j / 2 := by omega
        have HFIN := Lib.hid (grownBy_setCell HGR.out (p := ⟨w9.heap.size, (nth sf j / 2).toNat, none⟩) (.inr rfl) (.bool true))
        rw [hth] at HTH
        clear hrj hth q1 q2 hmk
        have hS0 : (wr.drew).cell? ⟨K, 0, none⟩ = some (.slice (some ⟨b2, o2, none⟩) sw.length ca) ∧ (wr.drew).cell? ⟨K, 4, none⟩ = some (.slice (some ⟨bj, oj, none⟩) sf.length ce) ∧ (wr.drew).cell? ⟨bj, oj + j, none⟩ = some (.int .i64 (nth sf j)) := ⟨p1, p5, hcj⟩
        go_wp2_with fail
        go_region_held3 (fun W => W.cell? ⟨K, 0, none⟩ = some (.slice (some ⟨b2, o2, none⟩) sw.length ca) ∧ W.cell? ⟨K, 4, none⟩ = some (.slice (some ⟨bj, oj, none⟩) sf.length ce) ∧ W.cell? ⟨bj, oj + j, none⟩ = some (.int .i64 (nth sf j)))
          (first | with_reducible exact hS0 | go_keep)
          (first
            | (with_reducible refine HTH.out.mono ?_; rintro e w11 ⟨rfl, rfl⟩))
        all_goals go_wp2_with fail
        go_roundw
        case rel => exact ⟨j + 1, by go_num, by omega, grownBy_drewN HFIN.out 1, HPUT.out⟩
        case measure => simp [intOf]; omega
      · obtain rfl : j = sf.length := by omega
        have how := HOW.out
        rw [List.take_length] at how
        have HOF := Lib.hid how
        have HO8J := Lib.hid (HO89.out.below HBJ.out (fun k hk => by cases hk; exact hG89))
        have HO9J := Lib.hid (HO9.out.below HBJ.out (fun k hk => by cases hk; exact hG9))
        have HM1 := Lib.hid (fun p (h : f8 p = true) => HFB.out f8 HT8.out p h trivial)
        have HM2 := Lib.hid (fun p (hp : p ∈ places sw) (hl : p < ws.length) (h : g9 p = false) => HFW.out g9 HT9.out p hp hl h trivial)
        have HXJ := Lib.hid (HX9.out.trans (HBJ.out.mono HX9.out.size))
        clear how HOW HFT HFB HFW HT8 HT9
        generalize marked sf = mk at *
        go_wp2_with fail
        clear p1 p2 p3 p4 p5 p11
        generalize wr = w12 at *
        go_loopw [16] (fun i u => ∃ (p : Nat) (pre : List Nat), i = .int .i64 (p : Int) ∧ 2 ≤ p ∧ p ≤ 200000 ∧ badFrom sw p = none ∧ places sw = pre ++ plFrom sw p ∧ u = w12) (fun i _ => sw.length - (intOf i).toNat)
        case atStart => exact ⟨2, [], rfl, by omega, by omega, HOS.out.bad, places_eq sw, rfl⟩
        case round =>
          obtain ⟨p, pre, rfl, hp2, hp4, hbd, hpl, rfl⟩ := hrel
          have HBD := Lib.hid hbd; have HPL := Lib.hid hpl
          clear hbd hpl
          obtain ⟨p1, p2, p3, p4, p5, -, -, -, -, -, p11⟩ := HPJ.out.f5
          by_cases hpw : p < sw.length
          · obtain ⟨hbad, hnx⟩ := badFrom_none HBD.out hpw
            obtain ⟨n1, n2, n3, n4, n5⟩ := not_bad hbad
            have hpl2 : places sw = pre ++ p :: plFrom sw (nxt sw p) := by rw [HPL.out, plFrom_ok hpw hbad]
            have hpm : p ∈ places sw := by rw [hpl2]; simp
            have HPL2 := Lib.hid hpl2
            have hcast := Lib.hid (nxt_cast hbad)
            have HNX := Lib.hid hnx
            have hnl := nxt_le hbad
            have hnxe : nxt sw p = p + 3 + slotsN sw p := rfl
            have h1 := HO8J.out.cell p hpw
            have h2 := HOF.out.cell p hpw
            have h3 := HRJ.out (p + 2) (by omega)
            have m1 := HM1.out p
            clear hbad hnx hpl2
            by_cases hpf : p < ws.length
            · have h4 := HO9J.out.cell p hpf
              have hd : decide ((p : Int) < ws.length) = true := decide_eq_true (by omega)
              have m2 := HM2.out p hpm hpf
              clear hpm
              cases e1 : f8 p
              all_goals cases e2 : mk p
              all_goals cases e3 : g9 p
              all_goals
                rw [e1] at h1 m1; rw [e2] at h2 m1 m2; rw [e3] at h4 m2
              all_goals try (exfalso; have := m1 rfl; cases this; done)
              all_goals try (exfalso; have := m2 rfl; cases this; done)
              all_goals
                clear m1 m2 e1 e2 e3
                go_wp2_with fail
                go_roundw
                case rel => exact ⟨nxt sw p, pre ++ [p], by rw [hcast.out], by omega, by omega, HNX.out, by rw [HPL2.out]; simp, trivial⟩
                case measure => simp [intOf]; omega
            · have hd : decide ((p : Int) < ws.length) = false := decide_eq_false (by omega)
              clear hpm
              cases e1 : f8 p
              all_goals cases e2 : mk p
              all_goals
                rw [e1] at h1 m1; rw [e2] at h2 m1
              all_goals try (exfalso; have := m1 rfl; cases this; done)
              all_goals
                clear m1 e1 e2
                go_wp2_with fail
                go_roundw
                case rel => exact ⟨nxt sw p, pre ++ [p], by rw [hcast.out], by omega, by omega, HNX.out, by rw [HPL2.out]; simp, trivial⟩
                case measure => simp [intOf]; omega
          · go_wp2_with fail
            go_ret
            exact ⟨rfl, HXJ.out⟩
end Go.Proofs.Ytjpppdacamhhfaa

