/- What ReachAlike's code computes. Conditions: the words are numbers of 64 bits. -/
import Derived.Test.YtjpppdacamhhfaaAlkG
import Derived.Test.YtjpppdacamhhfaaRAlike
import Derived.Test.YtjpppdacamhhfaaVast
namespace Go.Proofs.Ytjpppdacamhhfaa
open Go.RowKit
set_option linter.unusedVariables false

set_option maxRecDepth 100000 in
set_option maxHeartbeats 4000000 in
theorem reachAlike_walk (ws : List Int) (A : Option Addr) (c : Nat) (rs : List Int) (B : Option Addr) (d : Nat) (vs : List Int) (A' : Option Addr) (c' : Nat) (qs : List Int) (B' : Option Addr) (d' : Nat) (w : World)
    (hA : Ints w A ws) (hcap : ws.length ≤ c) (hw : I64 ws) (hl : ws.length ≤ 9223372036854775807) (hB : Ints w B rs) (hcapB : rs.length ≤ d) (hr : I64 rs) (hrl : rs.length ≤ 9223372036854775807)
    (hA' : Ints w A' vs) (hcap' : vs.length ≤ c') (hw' : I64 vs) (hl' : vs.length ≤ 9223372036854775807) (hB' : Ints w B' qs) (hcapB' : qs.length ≤ d') (hr' : I64 qs) (hrl' : qs.length ≤ 9223372036854775807) :
    Calls Try.prog 20 #[.agg #[.slice A ws.length c], .slice B rs.length d, .agg #[.slice A' vs.length c'], .slice B' qs.length d'] w fun e w' => e = .returned (.bool true) ∧ Below w.heap.size w w' := by
  have hx0 : Below w.heap.size w ((w.alloc (.cells #[.slice A ws.length c] 33)).alloc (.cells #[.slice A' vs.length c'] 33)) := ((Below.refl _ _).alloc (Nat.le_refl _) _).alloc (by simp) _
  have hh0 : Blk ((w.alloc (.cells #[.slice A ws.length c] 33)).alloc (.cells #[.slice A' vs.length c'] 33)) w.heap.size 33 #[.slice A ws.length c] := (Blk.new _ _ _).alloc _
  have hk0 : Blk ((w.alloc (.cells #[.slice A ws.length c] 33)).alloc (.cells #[.slice A' vs.length c'] 33)) (w.heap.size + 1) 33 #[.slice A' vs.length c'] := by
    have := Blk.new (w.alloc (.cells #[.slice A ws.length c] 33)) 33 #[.slice A' vs.length c']
    rwa [World.size_alloc] at this
  have HX0 := Lib.hid hx0
  have HA := Lib.hid (hA.below hx0); have HB := Lib.hid (hB.below hx0); have HA' := Lib.hid (hA'.below hx0); have HB' := Lib.hid (hB'.below hx0)
  have HW := Lib.hid hw; have HRI := Lib.hid hr; have HW' := Lib.hid hw'; have HRI' := Lib.hid hr'
  have HH := Lib.hid hh0; have HK := Lib.hid hk0
  clear hx0 hA hB hA' hB' hw hr hw' hr' hh0 hk0
  have hv := vastv_any ws rs qs A B B' c d d' ((w.alloc (.cells #[.slice A ws.length c] 33)).alloc (.cells #[.slice A' vs.length c'] 33))
  have HV := Lib.hid hv; clear hv
  obtain ⟨u1, u2, u3⟩ := HK.out.f1
  by_cases hbig : 5000 < ws.length ∨ 5000 < rs.length ∨ 5000 < qs.length
  · have hvv : (decide (5000 < ws.length) || decide (5000 < rs.length) || decide (5000 < qs.length)) = true := by
      simp only [Bool.or_eq_true, decide_eq_true_eq]; omega
    rw [hvv] at HV
    clear hbig hvv
    go_enter Try.func20, Try.ntmps20
    go_wp2_with (go_at_call 53; refine HV.out.mono ?_; rintro e w1 ⟨rfl, hb1⟩; have HB1 := Lib.hid hb1; clear hb1)
    go_ret
    exact ⟨rfl, HX0.out.trans (HB1.out.mono (by simp; omega))⟩
  have s1 : ws.length ≤ 5000 := by omega
  have s2 : rs.length ≤ 5000 := by omega
  have s3 : qs.length ≤ 5000 := by omega
  have hvv : (decide (5000 < ws.length) || decide (5000 < rs.length) || decide (5000 < qs.length)) = false := by
    simp only [Bool.or_eq_false_iff, decide_eq_false_iff_not]; omega
  rw [hvv] at HV
  clear hvv hbig u1 u2 u3
  go_enter Try.func20, Try.ntmps20
  go_wp2_with fail
  refine HV.out.mono ?_
  rintro e w1 ⟨rfl, hb1⟩
  have HX1 := Lib.hid (HX0.out.trans (hb1.mono (by simp; omega)))
  have HA1 := Lib.hid (HA.out.below hb1); have HB1 := Lib.hid (HB.out.below hb1); have HA1' := Lib.hid (HA'.out.below hb1); have HB1' := Lib.hid (HB'.out.below hb1)
  have HH1 := Lib.hid (HH.out.below hb1 HH.out.lt); have HK1 := Lib.hid (HK.out.below hb1 HK.out.lt)
  obtain ⟨x1, x2, x3⟩ := HH1.out.f1
  obtain ⟨u1, u2, u3⟩ := HK1.out.f1
  clear hb1 HX0 HA HB HA' HB' HH HK HV
  cases hvb : decide (5000 < (vs.length : Int))
  case true =>
    go_wp2_with fail
    go_ret
    exact ⟨rfl, HX1.out⟩
  have s4 : vs.length ≤ 5000 := by
    have := of_decide_eq_false hvb
    omega
  go_wp2_with fail
  clear hvb
  refine (alike2_any ws rs vs qs A B A' B' c d c' d' w1 HA1.out hcap HW.out hl HB1.out HRI.out (by omega) HA1'.out hcap' HW'.out hl' HB1'.out HRI'.out (by omega)).mono ?_
  rintro e w2 ⟨hb2, hcase⟩
  have hre : ∃ bv f1 f2, e = .returned (.tuple #[.bool bv, fltV f1 f2]) ∧ (((rootsF ws rs).1 ≠ 0 ∧ bv = false ∧ f1 = (rootsF ws rs).1 ∧ f2 = (rootsF ws rs).2) ∨ ((rootsF ws rs).1 = 0 ∧ (rootsF vs qs).1 ≠ 0 ∧ bv = false ∧ f1 = (rootsF vs qs).1 ∧ f2 = (rootsF vs qs).2) ∨
      ((rootsF ws rs).1 = 0 ∧ (rootsF vs qs).1 = 0 ∧ f1 = 0 ∧ f2 = 0 ∧ ∃ f g, Tells ws rs f ∧ Tells vs qs g ∧ bv = alikeR ws rs f vs qs g)) := by
    rcases hcase with ⟨h, rfl⟩ | ⟨h, h', rfl⟩ | ⟨h, h', f, g, hf, hg, rfl⟩
    · exact ⟨_, _, _, rfl, .inl ⟨h, rfl, rfl, rfl⟩⟩
    · exact ⟨_, _, _, rfl, .inr (.inl ⟨h, h', rfl, rfl, rfl⟩)⟩
    · exact ⟨_, _, _, rfl, .inr (.inr ⟨h, h', rfl, rfl, f, g, hf, hg, rfl⟩)⟩
  clear hcase
  obtain ⟨bv, f1, f2, rfl, hcs⟩ := hre
  have HCS := Lib.hid hcs
  clear hcs x1 x2 x3 u1 u2 u3
  have hx3 : Below w2.heap.size w2 (w2.alloc (.cells #[.int .i64 f1, .int .i64 f2] 36)) := (Below.refl _ _).alloc (Nat.le_refl _) _
  have hb3 := hb2.trans (hx3.mono hb2.size)
  have HX3 := Lib.hid (HX1.out.trans (hb3.mono HX1.out.size))
  have HH3 := Lib.hid (HH1.out.below hb3 HH1.out.lt); have HK3 := Lib.hid (HK1.out.below hb3 HK1.out.lt)
  have HA3 := Lib.hid (HA1.out.below hb3); have HB3 := Lib.hid (HB1.out.below hb3); have HA3' := Lib.hid (HA1'.out.below hb3); have HB3' := Lib.hid (HB1'.out.below hb3)
  have HF3 := Lib.hid (Blk.new w2 36 #[.int .i64 f1, .int .i64 f2])
  have hs3 : w2.heap.size < (w2.alloc (.cells #[.int .i64 f1, .int .i64 f2] 36)).heap.size := by simp
  obtain ⟨x1, x2, x3⟩ := (HH1.out.below hb2 HH1.out.lt).f1
  clear hx3 hb3 hb2 HX1 HH1 HK1 HA1 HB1 HA1' HB1'
  unfold fltV
  go_wp2_with fail
  generalize (w2.alloc (.cells #[.int .i64 f1, .int .i64 f2] 36)) = w3 at *
  clear x1 x2 x3
  generalize w2.heap.size = F at *
  refine (rroots_any ws rs A B c d w3 HA3.out HW.out hl HB3.out HRI.out hrl).mono ?_
  rintro e w4 ⟨rfl, hb4⟩
  have hx5 : Below w4.heap.size w4 (w4.alloc (.cells #[.int .i64 (rootsF ws rs).1, .int .i64 (rootsF ws rs).2] 36)) := (Below.refl _ _).alloc (Nat.le_refl _) _
  have hb5 := hb4.trans (hx5.mono hb4.size)
  have HX5 := Lib.hid (HX3.out.trans (hb5.mono HX3.out.size))
  have HH5 := Lib.hid (HH3.out.below hb5 HH3.out.lt); have HK5 := Lib.hid (HK3.out.below hb5 HK3.out.lt); have HF5 := Lib.hid (HF3.out.below hb5 HF3.out.lt)
  have HA5 := Lib.hid (HA3.out.below hb5); have HB5 := Lib.hid (HB3.out.below hb5); have HA5' := Lib.hid (HA3'.out.below hb5); have HB5' := Lib.hid (HB3'.out.below hb5)
  have HN5 := Lib.hid (Blk.new w4 36 #[.int .i64 (rootsF ws rs).1, .int .i64 (rootsF ws rs).2])
  have hs5 : w4.heap.size < (w4.alloc (.cells #[.int .i64 (rootsF ws rs).1, .int .i64 (rootsF ws rs).2] 36)).heap.size := by simp
  have hwF : w.heap.size ≤ w4.heap.size := (HX3.out.trans (hb4.mono HX3.out.size)).size
  obtain ⟨u1, u2, u3⟩ := (HK3.out.below hb4 HK3.out.lt).f1
  obtain ⟨n1, n2, n3, n4, n5⟩ := HN5.out.f2
  have hF4 : F < w4.heap.size := Nat.lt_of_lt_of_le HF3.out.lt hb4.size
  have HA4 := Lib.hid (HA3.out.below hb4); have HB4 := Lib.hid (HB3.out.below hb4); have HA4' := Lib.hid (HA3'.out.below hb4); have HB4' := Lib.hid (HB3'.out.below hb4)
  have HH4 := Lib.hid (HH3.out.below hb4 HH3.out.lt); have HK4 := Lib.hid (HK3.out.below hb4 HK3.out.lt); have HF4 := Lib.hid (HF3.out.below hb4 HF3.out.lt); have HX4 := Lib.hid (HX3.out.trans (hb4.mono HX3.out.size))
  have HX45 := Lib.hid hx5
  obtain ⟨k1, k2, k3, k4, k5⟩ := HF5.out.f2
  clear hx5 hb5 hb4 HX3 HH3 HK3 HF3 HA3 HB3 HA3' HB3'
  cases hc : ((rootsF ws rs).1 == 0)
  · have hne : (rootsF ws rs).1 ≠ 0 := by simpa using hc
    have hc2 : ((rootsF ws rs).1 != 0) = true := by simpa using hne
    obtain ⟨-, rfl, rfl, rfl⟩ := HCS.out.resolve_right (fun h => by rcases h with h | h <;> exact hne h.1)
    clear hne
    unfold fltV
    go_wp2_with fail
    go_ret
    exact ⟨rfl, HX5.out⟩
  · have h0 : (rootsF ws rs).1 = 0 := by simpa using hc
    have H0 := Lib.hid h0
    unfold fltV
    clear k1 k2 k3 k4 k5 h0
    go_wp2_with fail
    clear u1 u2 u3 n1 n2 n3 n4 n5
    generalize (w4.alloc (.cells #[.int .i64 (rootsF ws rs).1, .int .i64 (rootsF ws rs).2] 36)) = w5 at *
    refine (rroots_any vs qs A' B' c' d' w5 HA5'.out HW'.out hl' HB5'.out HRI'.out hrl').mono ?_
    rintro e w6 ⟨rfl, hb6⟩
    have hn6 := HN5.out.below hb6 HN5.out.lt
    have hb47 : Below w4.heap.size w4 ((w6.setCell ⟨w4.heap.size, 0, none⟩ (.int .i64 (rootsF vs qs).1)).setCell ⟨w4.heap.size, 1, none⟩ (.int .i64 (rootsF vs qs).2)) := ((HX45.out.trans (hb6.mono HX45.out.size)).setCell (Nat.le_refl _) _).setCell (Nat.le_refl _) _
    have hn7 : Blk ((w6.setCell ⟨w4.heap.size, 0, none⟩ (.int .i64 (rootsF vs qs).1)).setCell ⟨w4.heap.size, 1, none⟩ (.int .i64 (rootsF vs qs).2)) w4.heap.size 36 #[.int .i64 (rootsF vs qs).1, .int .i64 (rootsF vs qs).2] := by
      have := (hn6.set_ 0 (.int .i64 (rootsF vs qs).1)).set_ 1 (.int .i64 (rootsF vs qs).2)
      simpa using this
    have HX7 := Lib.hid (HX4.out.trans (hb47.mono HX4.out.size))
    have HN7 := Lib.hid hn7
    have HF7 := Lib.hid (HF4.out.below hb47 HF4.out.lt); have HH7 := Lib.hid (HH4.out.below hb47 HH4.out.lt); have HK7 := Lib.hid (HK4.out.below hb47 HK4.out.lt)
    have HA7 := Lib.hid (HA4.out.below hb47); have HB7 := Lib.hid (HB4.out.below hb47); have HA7' := Lib.hid (HA4'.out.below hb47); have HB7' := Lib.hid (HB4'.out.below hb47)
    obtain ⟨n1, n2, n3, n4, n5⟩ := hn6.f2
    obtain ⟨k1, k2, k3, k4, k5⟩ := (HF5.out.below hb6 HF5.out.lt).f2
    clear hn6 hb47 hn7 hb6 HX4 HX45 HA4 HB4 HA4' HB4' HF4 HH4 HK4 HA5 HB5 HA5' HB5' HF5 HH5 HK5 HN5 HX5
    cases hd : ((rootsF vs qs).1 == 0)
    · have hne : (rootsF vs qs).1 ≠ 0 := by simpa using hd
      have hd2 : ((rootsF vs qs).1 != 0) = true := by simpa using hne
      obtain ⟨-, -, rfl, rfl, rfl⟩ := (HCS.out.resolve_left (fun h => h.1 H0.out)).resolve_right (fun h => hne h.2.1)
      clear hne
      unfold fltV
      go_wp2_with fail
      go_ret
      exact ⟨rfl, HX7.out⟩
    · have h1 : (rootsF vs qs).1 = 0 := by simpa using hd
      have hd2 : ((rootsF vs qs).1 != 0) = false := by rw [h1]; rfl
      obtain ⟨-, -, hf1, hf2, f, g, hf, hg, hbv⟩ := (HCS.out.resolve_left (fun h => h.1 H0.out)).resolve_left (fun h => h.2.1 h1)
      obtain ⟨hok, -, -, hfit, -⟩ := rootsF_zero H0.out
      obtain ⟨hok', -, -, hfit', -⟩ := rootsF_zero h1
      have HOK := Lib.hid hok; have HFIT := Lib.hid hfit; have HOK' := Lib.hid hok'; have HFIT' := Lib.hid hfit'
      have HBV := Lib.hid hbv; have HTF := Lib.hid hf; have HTG := Lib.hid hg
      subst hf1 hf2
      obtain ⟨b1, o1, rfl, hlt1, hrow1⟩ := HA7.out (by have := hok.two; omega)
      obtain ⟨b2, o2, rfl, hlt2, hrow2⟩ := HA7'.out (by have := hok'.two; omega)
      have HR1 := Lib.hid hrow1; have HR2 := Lib.hid hrow2
      clear hok hok' hfit hfit' hbv hf hg hrow1 hrow2 HCS h1
      obtain ⟨x1, x2, x3⟩ := HH7.out.f1
      obtain ⟨u1, u2, u3⟩ := HK7.out.f1
      unfold fltV
      go_wp2_with fail
      clear n1 n2 n3 n4 n5 k1 k2 k3 k4 k5 x1 x2 x3 u1 u2 u3
      refine (ralike_any ws rs vs qs b1 o1 c b2 o2 c' B B' d d' _ HR1.out hlt1 HOK.out HW.out HB7.out HRI.out (by omega) HFIT.out HR2.out hlt2 HOK'.out HW'.out HB7'.out HRI'.out (by omega) HFIT'.out).mono ?_
      rintro e w8 ⟨f', g', hf', hg', rfl, hb8⟩
      have hee : alikeR ws rs f' vs qs g' = bv := by rw [hf'.one HTF.out, hg'.one HTG.out, HBV.out]
      rw [hee]
      have HX8 := Lib.hid (HX7.out.trans (hb8.mono HX7.out.size))
      obtain ⟨k1, k2, k3, k4, k5⟩ := (HF7.out.below hb8 HF7.out.lt).f2
      have hbb : (bv == bv) = true := by simp
      clear hf' hg' hee hb8 HBV
      go_wp2_with fail
      go_ret
      exact ⟨rfl, HX8.out⟩
end Go.Proofs.Ytjpppdacamhhfaa
