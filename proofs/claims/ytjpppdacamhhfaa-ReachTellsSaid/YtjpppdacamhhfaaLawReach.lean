/- What ReachTells' code computes. Conditions: the words are numbers of 64 bits. -/
import Derived.Test.YtjpppdacamhhfaaReachW
import Derived.Test.YtjpppdacamhhfaaRReach
import Derived.Test.YtjpppdacamhhfaaVast
namespace Go.Proofs.Ytjpppdacamhhfaa
open Go.RowKit
set_option linter.unusedVariables false

/-- What is told of the first n places. -/
def upF (f : Nat → Bool) (n : Nat) : List Int := ((List.range n).filter f).map fun (p : Nat) => 2 * (p : Int)
theorem upF_yes {f : Nat → Bool} {n : Nat} (h : f n = true) : upF f (n + 1) = upF f n ++ [2 * (n : Int)] := by unfold upF; rw [List.range_succ, List.filter_append]; simp [h]
theorem upF_no {f : Nat → Bool} {n : Nat} (h : f n = false) : upF f (n + 1) = upF f n := by unfold upF; rw [List.range_succ, List.filter_append]; simp [h]
theorem upF_len (f : Nat → Bool) (n : Nat) : (upF f n).length ≤ n := by unfold upF; rw [List.length_map]; exact Nat.le_trans (List.length_filter_le _ _) (by rw [List.length_range]; omega)
theorem reachL_up {ws rs : List Int} {S : List Nat} {f : Nat → Bool} (hok : OkH ws) (hr : ∀ o ∈ rs, fitsB ws o = true) (hn : S.Nodup) (hS : ∀ p, p ∈ S ↔ Rch ws rs p) (hf : Tells ws rs f) : reachL S = upF f ws.length := by
  have hp : S.Perm ((List.range ws.length).filter f) := by
    refine (List.perm_ext_iff_of_nodup hn (List.nodup_range.filter f)).2 (fun p => ?_)
    rw [List.mem_filter, List.mem_range, hf p, hS p]
    exact ⟨fun h => ⟨(places_mem (h.pl hok hr)).2.1, h⟩, fun h => h.2⟩
  have hs := sortedS_is hp ((List.pairwise_lt_range.imp (fun {a b} h => Nat.le_of_lt h)).filter f)
  unfold reachL upF
  rw [hs, List.map_map]
  rfl

set_option maxRecDepth 100000 in
set_option maxHeartbeats 1600000 in
theorem reachTells_walk (ws : List Int) (A : Option Addr) (c : Nat) (rs : List Int) (B : Option Addr) (d : Nat) (w : World)
    (hA : Ints w A ws) (hcap : ws.length ≤ c) (hw : I64 ws) (hl : ws.length ≤ 9223372036854775807) (hB : Ints w B rs) (hcapB : rs.length ≤ d) (hr : I64 rs) (hrl : rs.length ≤ 9223372036854775807) :
    Calls Try.prog 27 #[.agg #[.slice A ws.length c], .slice B rs.length d] w fun e w' => e = .returned (.bool true) ∧ Below w.heap.size w w' := by
  have hx0 : Below w.heap.size w (w.alloc (.cells #[.slice A ws.length c] 33)) := (Below.refl _ _).alloc (Nat.le_refl _) _
  have HX0 := Lib.hid hx0
  have HA := Lib.hid (hA.below hx0); have HB := Lib.hid (hB.below hx0)
  have HW := Lib.hid hw; have HRI := Lib.hid hr
  have HH := Lib.hid (Blk.new w 33 #[.slice A ws.length c])
  clear hx0 hA hB hw hr
  have hv := vastv_any ws rs [] A B none c d 0 (w.alloc (.cells #[.slice A ws.length c] 33))
  have HV := Lib.hid hv; clear hv
  by_cases hbig : 5000 < ws.length ∨ 5000 < rs.length
  · have hvv : (decide (5000 < ws.length) || decide (5000 < rs.length) || decide (5000 < ([] : List Int).length)) = true := by
      simp only [Bool.or_eq_true, decide_eq_true_eq]; omega
    rw [hvv] at HV
    clear hbig hvv
    go_enter Try.func27, Try.ntmps27
    go_wp2_with (go_at_call 53; refine HV.out.mono ?_; rintro e w1 ⟨rfl, hb1⟩; have HB1 := Lib.hid hb1; clear hb1)
    go_ret
    exact ⟨rfl, HX0.out.trans (HB1.out.mono (by simp))⟩
  have s1 : ws.length ≤ 5000 := by omega
  have s2 : rs.length ≤ 5000 := by omega
  have hvv : (decide (5000 < ws.length) || decide (5000 < rs.length) || decide (5000 < ([] : List Int).length)) = false := by
    simp only [Bool.or_eq_false_iff, decide_eq_false_iff_not, List.length_nil]; omega
  rw [hvv] at HV
  clear hvv hbig
  go_enter Try.func27, Try.ntmps27
  go_wp2_with fail
  refine HV.out.mono ?_
  rintro e w1 ⟨rfl, hb1⟩
  have HX1 := Lib.hid (HX0.out.trans (hb1.mono (by simp)))
  have HA1 := Lib.hid (HA.out.below hb1); have HB1 := Lib.hid (HB.out.below hb1)
  have HH1 := Lib.hid (HH.out.below hb1 HH.out.lt)
  obtain ⟨x1, x2, x3⟩ := HH1.out.f1
  clear hb1
  go_wp2_with fail
  refine (reach_any ws rs A B c d w1 HA1.out hcap HW.out hl HB1.out HRI.out (by omega)).mono ?_
  rintro e w2 ⟨X, hX, hb2, A2, c2, rfl, hoa⟩
  have HXX := Lib.hid hX
  have hia : Ints w2 A2 X := (own_ints' hoa).1
  have HX2 := Lib.hid (HX1.out.trans (hb2.mono HX1.out.size))
  have HA2 := Lib.hid (HA1.out.below hb2); have HB2 := Lib.hid (HB1.out.below hb2)
  have HH2 := Lib.hid (HH1.out.below hb2 HH1.out.lt)
  generalize hf : rootsF ws rs = f at *
  have HF := Lib.hid hf; clear hf
  have hx3 : Below w2.heap.size w2 (w2.alloc (.cells #[.int .i64 f.1, .int .i64 f.2] 36)) := (Below.refl _ _).alloc (Nat.le_refl _) _
  have HX3 := Lib.hid (HX2.out.trans (hx3.mono HX2.out.size))
  have HH3 := Lib.hid (HH2.out.below hx3 HH2.out.lt)
  have HA3 := Lib.hid (HA2.out.below hx3); have HB3 := Lib.hid (HB2.out.below hx3)
  have HIA3 := Lib.hid (hia.below hx3)
  have HK3 := Lib.hid (Blk.new w2 36 #[.int .i64 f.1, .int .i64 f.2])
  clear hx3 hb2 hoa hia hX x1 x2 x3
  obtain ⟨x1, x2, x3⟩ := HH2.out.f1
  unfold fltV
  go_wp2_with fail
  generalize (w2.alloc (.cells #[.int .i64 f.1, .int .i64 f.2] 36)) = w5 at *
  generalize w2.heap.size = K at *
  refine (rroots_any ws rs A B c d w5 HA3.out HW.out hl HB3.out HRI.out hrl).mono ?_
  rintro e w6 ⟨rfl, hb6⟩
  rw [HF.out]
  have hx7 : Below w6.heap.size w6 (w6.alloc (.cells #[.int .i64 f.1, .int .i64 f.2] 36)) := (Below.refl _ _).alloc (Nat.le_refl _) _
  have hb7 := hb6.trans (hx7.mono hb6.size)
  have HX7 := Lib.hid (HX3.out.trans (hb7.mono HX3.out.size))
  have HA7 := Lib.hid (HA3.out.below hb7); have HB7 := Lib.hid (HB3.out.below hb7)
  have HIA7 := Lib.hid (HIA3.out.below hb7)
  have HH7 := Lib.hid (HH3.out.below hb7 HH3.out.lt); have HK7 := Lib.hid (HK3.out.below hb7 HK3.out.lt)
  obtain ⟨m1, m2, m3⟩ := (HH3.out.below hb6 HH3.out.lt).f1
  obtain ⟨n1, n2, n3, n4, n5⟩ := (HK3.out.below hb6 HK3.out.lt).f2
  clear hx7 hb6 hb7 x1 x2 x3
  cases hc : (f.1 == 0)
  · have hne : f.1 ≠ 0 := by simpa using hc
    have hc2 : (f.1 != 0) = true := by simpa using hne
    obtain ⟨-, rfl⟩ := HXX.out.resolve_right (fun h => hne h.1)
    clear hne
    unfold fltV
    go_wp2_with fail
    go_ret
    exact ⟨rfl, HX7.out⟩
  · have h0 : f.1 = 0 := by simpa using hc
    have hrz := rootsF_zero (ws := ws) (rs := rs) (by rw [HF.out]; exact h0)
    obtain ⟨hokh, hokb, _, hfit, hz⟩ := hrz
    obtain ⟨-, S, hnd, hS, hxx⟩ := HXX.out.resolve_left (fun h => h.1 h0)
    have hz0 : f = (0, 0) := HF.out.symm.trans hz
    subst hz0 hxx
    have HOK := Lib.hid hokh; have HFIT := Lib.hid hfit; have HND := Lib.hid hnd; have HS := Lib.hid hS
    have hqq : ws.length ≤ 2000 := hokh.most
    obtain ⟨b, o, rfl, hlt, hrow⟩ := HA7.out (by have := hokh.two; omega)
    have HROW := Lib.hid hrow
    clear h0 hokh hokb hz hrow hc hfit hnd hS HF HXX HA HA1 HA2 HA3 HA7 HV
    dsimp only at *
    unfold fltV
    go_wp2_with fail
    generalize (w6.alloc (.cells #[.int .i64 0, .int .i64 ((0 : Nat) : Int)] 36)) = w7 at *
    clear m1 m2 m3 n1 n2 n3 n4 n5
    refine (rreach_any ws rs b o c B d w7 HROW.out hlt HOK.out HW.out HB7.out HRI.out (by omega) HFIT.out).mono ?_
    rintro e w10 ⟨ff, G1, hT, rfl, hO10, hb10⟩
    have HX10 := Lib.hid (HX7.out.trans (hb10.mono HX7.out.size))
    have HIA10 := Lib.hid (HIA7.out.below hb10)
    have HK10 := Lib.hid (HK7.out.below hb10 HK7.out.lt)
    have hGlt := hO10.block.2
    have hcell : ∀ W, Below w10.heap.size w10 W → ∀ p, p < ws.length → W.cell? ⟨G1, p, none⟩ = some (.bool (ff p)) := fun W h p hp => (h.cell (p := ⟨G1, p, none⟩) hGlt).trans (hO10.cell p hp)
    have HCELL := Lib.hid hcell
    have hEQ := reachL_up HOK.out HFIT.out HND.out HS.out hT
    have HEQ := Lib.hid hEQ
    clear hT hO10 hb10 hcell hEQ
    generalize reachL S = X at *
    go_wp2_with fail
    go_loopw [8, 10] (fun v i wr => ∃ j : Nat, i = .int .i64 j ∧ j ≤ ws.length ∧ Below w10.heap.size w10 wr ∧ Own wr w10.heap.size v (upF ff j)) (fun _ i _ => ws.length - (intOf i).toNat)
    case atStart => exact ⟨0, rfl, Nat.zero_le _, Below.refl _ _, Own.nil _ _⟩
    case round =>
      obtain ⟨j, rfl, hj, hb5, hown5⟩ := hrel
      have HB5 := Lib.hid hb5; have HO5 := Lib.hid hown5
      have hws : w10.heap.size ≤ wr.heap.size := hb5.size
      clear hb5 hown5
      by_cases hjl : j < ws.length
      · have hc0 := HCELL.out wr HB5.out j hjl
        have hly := upF_len ff j
        have hly2 : (upF ff j).length ≤ 1000000000 := by omega
        have HLY := Lib.hid hly2
        have hz6 : w10.heap.size ≤ (wr.alloc (.cells #[.int .i64 (2 * (j : Int))] 3)).heap.size := by rw [World.size_alloc]; omega
        clear hly hly2
        cases hfp : ff j
        · rw [hfp] at hc0
          have HE := Lib.hid (upF_no hfp)
          clear hfp
          go_wp2_with fail
          go_roundw
          case rel => exact ⟨j + 1, by go_num, by omega, HB5.out, by rw [HE.out]; exact HO5.out⟩
          case measure => simp [intOf]; omega
        · rw [hfp] at hc0
          have HE := Lib.hid (upF_yes hfp)
          clear hfp
          go_wp2_with (at_builtin; refine wpList_pushN rfl _ _ rfl w10.heap.size _ (upF ff j) rfl (HO5.out.alloc _) wr.heap.size 1 (2 * (j : Int)) rfl (cell_new wr _ _ _ 0) HLY.out hz6 ?_; intro g6 n6 cap6 w6 hown6 hg6 hgr6; have HO6 := Lib.hid hown6; have HB6 := Lib.hid ((HB5.out.alloc hws _).grown hgr6 hz6 (fun q hq => (HO5.out.lt q hq).1)); clear hown6 hgr6)
          go_roundw
          case rel => exact ⟨j + 1, by go_num, by omega, HB6.out, by rw [HE.out]; exact HO6.out⟩
          case measure => simp [intOf]; omega
      · obtain rfl : j = ws.length := by omega
        have hO5 := HO5.out
        rw [← HEQ.out] at hO5
        obtain ⟨A6, c6, rfl, -⟩ := hO5.form2
        have hi6 := (own_ints' hO5).1
        have HI6 := Lib.hid hi6
        have HIA11 := Lib.hid (HIA10.out.below HB5.out)
        have hxl : X.length ≤ 2000 := by rw [HEQ.out]; have := upF_len ff ws.length; omega
        have HX11 := Lib.hid (HX10.out.trans (HB5.out.mono HX10.out.size))
        obtain ⟨n1, n2, n3, n4, n5⟩ := (HK10.out.below HB5.out HK10.out.lt).f2
        clear hO5 hi6
        go_wp2_with fail
        have h45 := ints_any X X A2 A6 c2 c6 wr HIA11.out HI6.out (by omega)
        rw [eqB_self] at h45
        refine h45.mono ?_
        rintro e w9 ⟨rfl, n, rfl⟩
        go_wp2_with fail
        go_ret
        exact ⟨rfl, HX11.out.trans (belowN _ _ _)⟩
end Go.Proofs.Ytjpppdacamhhfaa
