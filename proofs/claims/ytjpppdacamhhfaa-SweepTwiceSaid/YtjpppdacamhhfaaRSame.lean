/- What the document asks of two references and two things computes the plain functions. Conditions: heaps that may be. -/
import Derived.Test.YtjpppdacamhhfaaRReach
import Derived.Test.YtjpppdacamhhfaaRCheck
import Derived.Test.YtjpppdacamhhfaaSSpec
namespace Go.Proofs.Ytjpppdacamhhfaa
open Go.RowKit
set_option linter.unusedVariables false

/-- The cells of a block hold Booleans. -/
def RowB (w : World) (G : Nat) (f : Nat → Bool) (n : Nat) : Prop := ∀ j, j < n → w.cell? ⟨G, j, none⟩ = some (.bool (f j))
theorem RowB.below {w w' : World} {B G n : Nat} {f : Nat → Bool} (h : RowB w G f n) (hb : Below B w w') (hB : G < B) : RowB w' G f n := fun j hj => (hb.cell (p := ⟨G, j, none⟩) hB).trans (h j hj)
/-- Two heaps and their marks, in memory. -/
structure Sides (w : World) (b o : Nat) (ws : List Int) (G : Nat) (f : Nat → Bool) (b' o' : Nat) (vs : List Int) (H : Nat) (g : Nat → Bool) : Prop where
  r1 : Row w b o ws
  m1 : RowB w G f ws.length
  r2 : Row w b' o' vs
  m2 : RowB w H g vs.length
theorem Sides.drewN {w : World} {b o : Nat} {ws : List Int} {G : Nat} {f : Nat → Bool} {b' o' : Nat} {vs : List Int} {H : Nat} {g : Nat → Bool} (h : Sides w b o ws G f b' o' vs H g) (n : Nat) : Sides (w.drewN n) b o ws G f b' o' vs H g :=
  ⟨fun j hj => h.r1 j hj, fun j hj => h.m1 j hj, fun j hj => h.r2 j hj, fun j hj => h.m2 j hj⟩
theorem pcl_fit {ws : List Int} {x : Int} (h : fitsB ws x = true) (hk : kd x = 3) : pcl x + 3 ≤ ws.length ∧ x / 2 = (pcl x : Int) ∧ 4 ≤ x := by
  have h1 := places_mem (fits_pl h hk)
  have h2 := not_bad h1.2.2
  have h3 := (kd_three x).1 hk
  refine ⟨h2.1, ?_, h3.2.1⟩
  unfold pcl; omega

section
variable {w : World} {b o : Nat} {ws : List Int} {G : Nat} {f : Nat → Bool} {b' o' : Nat} {vs : List Int} {H : Nat} {g : Nat → Bool} (hS : Sides w b o ws G f b' o' vs H g) (hw : I64 ws) (hv : I64 vs) (hl : ws.length ≤ 100000) (hl' : vs.length ≤ 100000)
include hS hw hv hl hl'
set_option maxRecDepth 100000 in
set_option maxHeartbeats 1000000 in
theorem same_any (c d c' d' : Nat) (x y : Int) (hx : fitsB ws x = true) (hy : fitsB vs y = true) :
    Calls Try.prog 105 #[.slice (some ⟨b, o, none⟩) ws.length c, .slice (some ⟨G, 0, none⟩) ws.length d, .int .i64 x, .slice (some ⟨b', o', none⟩) vs.length c', .slice (some ⟨H, 0, none⟩) vs.length d', .int .i64 y] w
      fun e w' => e = .returned (.bool (sameB ws f x vs g y)) ∧ ∃ m, w' = w.drewN m := by
  obtain ⟨x1, x2⟩ := fits_bd hx
  obtain ⟨y1, y2⟩ := fits_bd hy
  cases hkx : (kd x != 3)
  · have hkx' : kd x = 3 := by simpa using hkx
    obtain ⟨p1, p2, p3⟩ := pcl_fit hx hkx'
    cases hky : (kd y != 3)
    · have hky' : kd y = 3 := by simpa using hky
      obtain ⟨q1, q2, q3⟩ := pcl_fit hy hky'
      have hE : Hid (sameB ws f x vs g y = (f (pcl x) && g (pcl y) && decide (nth ws (pcl x + 1) = nth vs (pcl y + 1)))) := by show _ = _; unfold sameB; rw [if_pos ⟨hkx', hky'⟩]
      have c1 := hS.m1 (pcl x) (by omega)
      have c2 := hS.m2 (pcl y) (by omega)
      have c3 := hS.r1 (pcl x + 1) (by omega)
      have c4 := hS.r2 (pcl y + 1) (by omega)
      have e1 : (x / 2).toNat = pcl x := rfl
      have e2 : (y / 2).toNat = pcl y := rfl
      obtain ⟨t1, t2⟩ := hw (pcl x + 1)
      obtain ⟨t3, t4⟩ := hv (pcl y + 1)
      clear hS hw hv hkx' hky' hx hy e1 e2
      generalize pcl x = p at *
      generalize pcl y = q at *
      have b1 : (p : Int) < (ws.length : Int) := by omega
      have b2 : (q : Int) < (vs.length : Int) := by omega
      have b3 : 0 ≤ (p : Int) := by omega
      have b4 : 0 ≤ (q : Int) := by omega
      have b5 : IntKind.i64.wrap ((p : Int) + 1) = (p : Int) + 1 := IntWalk.i64_in _ (by omega)
      have b6 : IntKind.i64.wrap ((q : Int) + 1) = (q : Int) + 1 := IntWalk.i64_in _ (by omega)
      have b7 : ((p : Int) + 1).toNat = p + 1 := by omega
      have b8 : ((q : Int) + 1).toNat = q + 1 := by omega
      have b9 : (p : Int) + 1 < (ws.length : Int) := by omega
      have b10 : (q : Int) + 1 < (vs.length : Int) := by omega
      have b11 : 0 ≤ (p : Int) + 1 := by omega
      have b12 : 0 ≤ (q : Int) + 1 := by omega
      cases hfp : f p
      · rw [hfp] at c1
        go_enter Try.func105, Try.ntmps105
        go_wp2_with (go_at_call 34; refine (rkind_any _ _ (by omega) (by omega)).mono ?_; rintro e w' ⟨rfl, rfl⟩)
        go_quiet (fail)
        clear b5 b6 b7 b8
        go_wp2
        go_ret
        refine ⟨ret_bool ?_, _, rfl⟩
        rw [hE.out, hfp]; rfl
      · rw [hfp] at c1
        cases hgq : g q
        · rw [hgq] at c2
          go_enter Try.func105, Try.ntmps105
          go_wp2_with (go_at_call 34; refine (rkind_any _ _ (by omega) (by omega)).mono ?_; rintro e w' ⟨rfl, rfl⟩)
          go_quiet (fail)
          clear b5 b6 b7 b8
          go_wp2
          go_ret
          refine ⟨ret_bool ?_, _, rfl⟩
          rw [hE.out, hfp, hgq]; rfl
        · rw [hgq] at c2
          go_enter Try.func105, Try.ntmps105
          go_wp2_with (go_at_call 34; refine (rkind_any _ _ (by omega) (by omega)).mono ?_; rintro e w' ⟨rfl, rfl⟩)
          go_quiet (fail)
          clear b5 b6 b7 b8
          go_wp2
          go_ret
          refine ⟨ret_bool ?_, _, rfl⟩
          rw [hE.out, hfp, hgq, Bool.eq_iff_iff]; simp
    · have hE : Hid (sameB ws f x vs g y = decide (x = y)) := by show _ = _; unfold sameB; rw [if_neg (fun e => by rw [e.2] at hky; cases hky)]
      clear hS hw hv hkx' hx hy p2
      go_enter Try.func105, Try.ntmps105
      go_wp2_with (go_at_call 34; refine (rkind_any _ _ (by omega) (by omega)).mono ?_; rintro e w' ⟨rfl, rfl⟩)
      go_ret
      refine ⟨ret_bool ?_, 0, rfl⟩
      rw [hE.out, Bool.eq_iff_iff]; simp
  · have hE : Hid (sameB ws f x vs g y = decide (x = y)) := by show _ = _; unfold sameB; rw [if_neg (fun e => by rw [e.1] at hkx; cases hkx)]
    clear hS hw hv hx hy
    go_enter Try.func105, Try.ntmps105
    go_wp2_with (go_at_call 34; refine (rkind_any _ _ (by omega) (by omega)).mono ?_; rintro e w' ⟨rfl, rfl⟩)
    go_ret
    refine ⟨ret_bool ?_, 0, rfl⟩
    rw [hE.out, Bool.eq_iff_iff]; simp
end

/-! The thing with a hash. -/
def hfFrom (vs : List Int) (g : Nat → Bool) (h : Int) (k : Nat) : Option Nat := hashF vs g h (vs.length - k) k
theorem hfFrom_yes {vs : List Int} {g : Nat → Bool} {h : Int} {k : Nat} (hk : k < vs.length) (h1 : g k = true) (h2 : nth vs (k + 1) = h) : hfFrom vs g h k = some k := by
  unfold hfFrom
  rw [show vs.length - k = (vs.length - (k + 1)) + 1 from by omega, hashF, if_pos ⟨h1, h2⟩]
theorem hfFrom_no {vs : List Int} {g : Nat → Bool} {h : Int} {k : Nat} (hk : k < vs.length) (h1 : ¬ (g k = true ∧ nth vs (k + 1) = h)) : hfFrom vs g h k = hfFrom vs g h (k + 1) := by
  unfold hfFrom
  rw [show vs.length - k = (vs.length - (k + 1)) + 1 from by omega, hashF, if_neg h1]
theorem hfFrom_end {vs : List Int} {g : Nat → Bool} {h : Int} : hfFrom vs g h vs.length = none := by
  unfold hfFrom; rw [Nat.sub_self]; rfl
def hashI (r : Option Nat) : Int := match r with | none => -1 | some q => q

set_option maxRecDepth 100000 in
set_option maxHeartbeats 1000000 in
theorem hashed_any {w : World} {b' o' : Nat} {vs : List Int} {H : Nat} {g : Nat → Bool} (hr : Row w b' o' vs) (hm : RowB w H g vs.length) (hv : I64 vs) (hl' : vs.length ≤ 100000) (hg : ∀ q, g q = true → q + 3 ≤ vs.length) (c' d' : Nat) (h : Int) :
    Calls Try.prog 106 #[.slice (some ⟨b', o', none⟩) vs.length c', .slice (some ⟨H, 0, none⟩) vs.length d', .int .i64 h] w fun e w' => e = .returned (.int .i64 (hashI (hashed vs g h))) ∧ w = w' := by
  have HR := Lib.hid hr; have HM := Lib.hid hm; have HV := Lib.hid hv; have HG := Lib.hid hg
  have HE : Hid (hashed vs g h = hfFrom vs g h 0) := rfl
  clear hr hm hv hg
  go_enter Try.func106, Try.ntmps106
  go_wp2_with fail
  go_loop [7] (fun i => ∃ j : Nat, j ≤ vs.length ∧ i = .int .i64 j ∧ hfFrom vs g h 0 = hfFrom vs g h j) (fun i => vs.length - (intOf i).toNat)
  case atStart => exact ⟨0, Nat.zero_le _, rfl, rfl⟩
  case round =>
    obtain ⟨j, hj, rfl, hfj⟩ := hrel
    have HF := Lib.hid hfj; clear hfj
    by_cases hlt : j < vs.length
    · have hc := HM.out j hlt
      cases hgj : g j
      · rw [hgj] at hc
        have HS := Lib.hid (HF.out.trans (hfFrom_no hlt (fun e => by rw [hgj] at e; cases e.1)))
        go_wp2
        go_round
        case rel => exact ⟨j + 1, by omega, by go_num, HS.out⟩
        case measure => simp [intOf]; omega
      · rw [hgj] at hc
        have hb := HG.out j hgj
        have hcr := HR.out (j + 1) (by omega)
        cases he : (nth vs (j + 1) == h)
        · have HS := Lib.hid (HF.out.trans (hfFrom_no hlt (fun e => by rw [e.2] at he; simp at he)))
          go_wp2
          go_round
          case rel => exact ⟨j + 1, by omega, by go_num, HS.out⟩
          case measure => simp [intOf]; omega
        · have HS := Lib.hid (HF.out.trans (hfFrom_yes hlt hgj (by simpa using he)))
          go_wp2
          go_ret
          exact ⟨ret_int (by rw [HE.out, HS.out]; rfl), rfl⟩
    · obtain rfl : j = vs.length := by omega
      have HS := Lib.hid (HF.out.trans hfFrom_end)
      go_wp2
      go_ret
      exact ⟨ret_int (by rw [HE.out, HS.out]; rfl), rfl⟩

theorem slotB_one {fm x y : Int} {ws vs : List Int} {f g : Nat → Bool} (h : fm = 1) : slotB fm ws f x vs g y = decide (x = y) := by unfold slotB; rw [if_pos h]
theorem slotB_two {fm x y : Int} {ws vs : List Int} {f g : Nat → Bool} (h : fm = 2) : slotB fm ws f x vs g y = sameB ws f (weakO f x) vs g (weakO g y) := by unfold slotB; rw [if_neg (by omega), if_pos h]
theorem slotB_zero {fm x y : Int} {ws vs : List Int} {f g : Nat → Bool} (h1 : fm ≠ 1) (h2 : fm ≠ 2) : slotB fm ws f x vs g y = sameB ws f x vs g y := by unfold slotB; rw [if_neg h1, if_neg h2]
theorem allTo_no {P : Nat → Bool} {n k : Nat} (hk : k < n) (h : P k = false) : allTo P n = false := by
  cases e : allTo P n
  · rfl
  · rw [allTo_iff.1 e k hk] at h; cases h
theorem weak_cases (ws : List Int) (f : Nat → Bool) {x : Int} (hx : fitsB ws x = true) : fitsB ws (weakO f x) = true ∧ (((kd x == 3) = false ∧ weakO f x = x) ∨ ((kd x == 3) = true ∧ f (pcl x) = true ∧ weakO f x = x) ∨ ((kd x == 3) = true ∧ f (pcl x) = false ∧ weakO f x = 0)) := by
  unfold weakO
  by_cases hk : kd x = 3
  · have hk' : (kd x == 3) = true := by simpa using hk
    cases hf : f (pcl x)
    · rw [if_pos ⟨hk, rfl⟩]; exact ⟨fits_zero ws, .inr (.inr ⟨hk', rfl, rfl⟩)⟩
    · rw [if_neg (fun e => by cases e.2)]; exact ⟨hx, .inr (.inl ⟨hk', rfl, rfl⟩)⟩
  · rw [if_neg (fun e => hk e.1)]; exact ⟨hx, .inl ⟨by simpa using hk, rfl⟩⟩

set_option maxRecDepth 100000 in
set_option maxHeartbeats 4000000 in
theorem rthings_alike {w : World} {b o : Nat} {ws : List Int} {G : Nat} {f : Nat → Bool} {b' o' : Nat} {vs : List Int} {H : Nat} {g : Nat → Bool} (hS : Sides w b o ws G f b' o' vs H g) (hw : I64 ws) (hv : I64 vs) (hok : OkH ws) (hok' : OkH vs)
    (c d c' d' p q : Nat) (hp : p ∈ places ws) (hq : q ∈ places vs) :
    Calls Try.prog 107 #[.slice (some ⟨b, o, none⟩) ws.length c, .slice (some ⟨G, 0, none⟩) ws.length d, .int .i64 p, .slice (some ⟨b', o', none⟩) vs.length c', .slice (some ⟨H, 0, none⟩) vs.length d', .int .i64 q] w
      fun e w' => e = .returned (.bool (thingsB ws f p vs g q)) ∧ ∃ m, w' = w.drewN m := by
  have hl : ws.length ≤ 2000 := hok.most
  have hl' : vs.length ≤ 2000 := hok'.most
  obtain ⟨p2, pl, pb⟩ := places_mem hp
  obtain ⟨q2, ql, qb⟩ := places_mem hq
  obtain ⟨m1, m2, m3, m4, m5⟩ := not_bad pb
  obtain ⟨n1, n2, n3, n4, n5⟩ := not_bad qb
  have hsp : p + 3 + slotsN ws p ≤ ws.length := by have : slotsN ws p = (nth ws (p + 2) / 4).toNat := rfl; omega
  have hsd : ((slotsN ws p : Nat) : Int) = nth ws (p + 2) / 4 := by have : slotsN ws p = (nth ws (p + 2) / 4).toNat := rfl; omega
  have HSD := Lib.hid hsd
  clear hsd
  have hsame : ∀ (n k : Nat) (x y : Int), fitsB ws x = true → fitsB vs y = true → Calls Try.prog 105 #[.slice (some ⟨b, o, none⟩) ws.length c, .slice (some ⟨G, 0, none⟩) ws.length d, .int .i64 x, .slice (some ⟨b', o', none⟩) vs.length c', .slice (some ⟨H, 0, none⟩) vs.length d', .int .i64 y] (w.drewN (n + k)) fun e w' => e = .returned (.bool (sameB ws f x vs g y)) ∧ ∃ m, w' = w.drewN (n + m) := fun n k x y hx hy =>
    quiet_add (same_any (hS.drewN (n + k)) hw hv (by omega) (by omega) c d c' d' x y hx hy)
  have hsame0 : ∀ (n : Nat) (x y : Int), fitsB ws x = true → fitsB vs y = true → Calls Try.prog 105 #[.slice (some ⟨b, o, none⟩) ws.length c, .slice (some ⟨G, 0, none⟩) ws.length d, .int .i64 x, .slice (some ⟨b', o', none⟩) vs.length c', .slice (some ⟨H, 0, none⟩) vs.length d', .int .i64 y] (w.drewN n) fun e w' => e = .returned (.bool (sameB ws f x vs g y)) ∧ ∃ m, w' = w.drewN m := fun n x y hx hy =>
    quiet_draws (same_any (hS.drewN n) hw hv (by omega) (by omega) c d c' d' x y hx hy)
  have HSAME := Lib.hid hsame; have HSAME0 := Lib.hid hsame0
  have HS := Lib.hid hS; have HW := Lib.hid hw; have HV := Lib.hid hv; have HOK := Lib.hid hok; have HOK' := Lib.hid hok'; have HP := Lib.hid hp; have HQ := Lib.hid hq
  have hcx := class_fits hok hp
  have hcy := class_fits hok' hq
  have HCX := Lib.hid hcx; have HCY := Lib.hid hcy
  have c1 := hS.r1 (p + 2) (by omega)
  have c2 := hS.r2 (q + 2) (by omega)
  have c3 := hS.r1 p (by omega)
  have c4 := hS.r2 q (by omega)
  obtain ⟨t1, t2⟩ := hw (p + 2)
  obtain ⟨t3, t4⟩ := hv (q + 2)
  clear hS hw hv hok hok' hp hq hsame hsame0 hcx hcy pb qb
  have b5 : IntKind.i64.wrap ((p : Int) + 2) = (p : Int) + 2 := IntWalk.i64_in _ (by omega)
  have b6 : IntKind.i64.wrap ((q : Int) + 2) = (q : Int) + 2 := IntWalk.i64_in _ (by omega)
  have b7 : ((p : Int) + 2).toNat = p + 2 := by omega
  have b8 : ((q : Int) + 2).toNat = q + 2 := by omega
  have b9 : (p : Int) + 2 < (ws.length : Int) := by omega
  have b10 : (q : Int) + 2 < (vs.length : Int) := by omega
  have b11 : 0 ≤ (p : Int) + 2 := by omega
  have b12 : 0 ≤ (q : Int) + 2 := by omega
  have b1 : (p : Int) < (ws.length : Int) := by omega
  have b2 : (q : Int) < (vs.length : Int) := by omega
  have b3 : 0 ≤ (p : Int) := by omega
  have b4 : 0 ≤ (q : Int) := by omega
  cases hh : (nth ws (p + 2) != nth vs (q + 2))
  · have hhe : nth ws (p + 2) = nth vs (q + 2) := by simpa using hh
    have hsq : q + 3 + slotsN ws p ≤ vs.length := by
      have h1 : slotsN ws p = (nth ws (p + 2) / 4).toNat := rfl
      rw [hhe] at h1; omega
    have HHE := Lib.hid hhe
    clear hhe
    cases hcs : sameB ws f (nth ws p) vs g (nth vs q)
    · have hE : Hid (thingsB ws f p vs g q = false) := by show _ = _; unfold thingsB; rw [hcs]; simp
      have hc105 := fun n k => HSAME.out n k _ _ HCX.out HCY.out
      rw [hcs] at hc105
      have HC := Lib.hid hc105
      clear hc105
      go_enter Try.func107, Try.ntmps107
      go_wp2_with fail
      go_quiet (fail)
      clear b5 b6 b7 b8
      go_wp2_with fail
      go_quiet ((go_at_call 105; exact HC.out _ _))
      go_wp2
      go_ret
      exact ⟨ret_bool hE.out.symm, _, rfl⟩
    · have hE : Hid (thingsB ws f p vs g q = allTo (fun k => slotB (formOf ws p) ws f (nth ws (p + 3 + k)) vs g (nth vs (q + 3 + k))) (slotsN ws p)) := by show _ = _; unfold thingsB; rw [hcs, decide_eq_true HHE.out]; simp
      have hc105 := fun n k => HSAME.out n k _ _ HCX.out HCY.out
      rw [hcs] at hc105
      have HC := Lib.hid hc105
      clear hc105
      go_enter Try.func107, Try.ntmps107
      go_wp2_with fail
      go_quiet (fail)
      clear b5 b6 b7 b8
      go_wp2_with fail
      go_quiet ((go_at_call 105; exact HC.out _ _))
      go_wp2_with fail
      clear b1 b2 b3 b4 b9 b10 b11 b12
      go_loopw [14] (fun i wr => ∃ k m : Nat, i = .int .i64 k ∧ k ≤ slotsN ws p ∧ wr = w.drewN m ∧ allTo (fun k => slotB (formOf ws p) ws f (nth ws (p + 3 + k)) vs g (nth vs (q + 3 + k))) k = true) (fun i _ => slotsN ws p - (intOf i).toNat)
      case atStart => exact ⟨0, _, rfl, Nat.zero_le _, rfl, rfl⟩
      case round =>
        obtain ⟨k, m, rfl, hk, rfl, hall⟩ := hrel
        have HALL := Lib.hid hall; clear hall
        have hF4 : Hid (formOf ws p = nth ws (p + 2) % 4) := rfl
        by_cases hks : k < slotsN ws p
        · have hks' : (k : Int) < nth ws (p + 2) / 4 := by have := HSD.out; omega
          have d1 := HS.out.r1 (p + 3 + k) (by omega)
          have d2 := HS.out.r2 (q + 3 + k) (by omega)
          obtain ⟨v1, v2⟩ := HW.out (p + 3 + k)
          obtain ⟨v3, v4⟩ := HV.out (q + 3 + k)
          have hnext : slotB (formOf ws p) ws f (nth ws (p + 3 + k)) vs g (nth vs (q + 3 + k)) = true → allTo (fun k => slotB (formOf ws p) ws f (nth ws (p + 3 + k)) vs g (nth vs (q + 3 + k))) (k + 1) = true := fun h => by
            show (allTo _ k && _) = true
            rw [HALL.out]; exact h
          have hstop : slotB (formOf ws p) ws f (nth ws (p + 3 + k)) vs g (nth vs (q + 3 + k)) = false → allTo (fun k => slotB (formOf ws p) ws f (nth ws (p + 3 + k)) vs g (nth vs (q + 3 + k))) (slotsN ws p) = false := fun h => allTo_no hks h
          have HNEXT := Lib.hid hnext; have HSTOP := Lib.hid hstop
          clear hnext hstop
          by_cases hf1 : formOf ws p = 1
          · have hm4 : nth ws (p + 2) % 4 = 1 := hf1
            have HB := Lib.hid (slotB_one (x := nth ws (p + 3 + k)) (y := nth vs (q + 3 + k)) (ws := ws) (vs := vs) (f := f) (g := g) hf1)
            clear hf1
            cases hxy : (nth ws (p + 3 + k) == nth vs (q + 3 + k))
            · have hne : ¬ nth ws (p + 3 + k) = nth vs (q + 3 + k) := by simpa using hxy
              have HR := Lib.hid (HSTOP.out (by rw [HB.out]; simpa using hne))
              clear hne
              go_wp2
              go_ret
              exact ⟨ret_bool (by rw [hE.out, HR.out]), _, rfl⟩
            · have he : nth ws (p + 3 + k) = nth vs (q + 3 + k) := by simpa using hxy
              have HR := Lib.hid (HNEXT.out (by rw [HB.out]; simpa using he))
              clear he
              go_wp2
              go_roundw
              case rel => exact ⟨k + 1, m, by go_num, by omega, rfl, HR.out⟩
              case measure => simp [intOf]; omega
          · have hfx := slot_fits HOK.out HP.out hf1 hks
            have hform : formOf vs q = formOf ws p := by unfold formOf; rw [← HHE.out]
            have hslo : slotsN vs q = slotsN ws p := by unfold slotsN; rw [← HHE.out]
            have hfy := slot_fits HOK'.out HQ.out (by rw [hform]; exact hf1) (k := k) (by rw [hslo]; exact hks)
            have hm1 : ¬ nth ws (p + 2) % 4 = 1 := hf1
            have HFX := Lib.hid hfx; have HFY := Lib.hid hfy
            have HF1 := Lib.hid hf1
            obtain ⟨x1, x2⟩ := fits_bd hfx
            obtain ⟨y1, y2⟩ := fits_bd hfy
            clear hform hslo hf1
            by_cases hf2 : formOf ws p = 2
            · have hm2 : nth ws (p + 2) % 4 = 2 := hf2
              have HB := Lib.hid (slotB_two (x := nth ws (p + 3 + k)) (y := nth vs (q + 3 + k)) (ws := ws) (vs := vs) (f := f) (g := g) hf2)
              obtain ⟨gx, wx⟩ := weak_cases ws f hfx
              obtain ⟨gy, wy⟩ := weak_cases vs g hfy
              have HGX := Lib.hid gx; have HGY := Lib.hid gy
              clear hf2 gx gy
              have hpx : kd (nth ws (p + 3 + k)) = 3 → (pcl (nth ws (p + 3 + k)) + 3 ≤ ws.length ∧ nth ws (p + 3 + k) / 2 = (pcl (nth ws (p + 3 + k)) : Int) ∧ 4 ≤ nth ws (p + 3 + k)) := pcl_fit hfx
              have hpy : kd (nth vs (q + 3 + k)) = 3 → (pcl (nth vs (q + 3 + k)) + 3 ≤ vs.length ∧ nth vs (q + 3 + k) / 2 = (pcl (nth vs (q + 3 + k)) : Int) ∧ 4 ≤ nth vs (q + 3 + k)) := pcl_fit hfy
              have HPX := Lib.hid hpx; have HPY := Lib.hid hpy
              clear hfx hfy hpx hpy
              cases hsb : sameB ws f (weakO f (nth ws (p + 3 + k))) vs g (weakO g (nth vs (q + 3 + k)))
              all_goals
                have hc105 := fun n => HSAME0.out n _ _ HGX.out HGY.out
                rw [hsb] at hc105
                rcases wx with ⟨a1, a2⟩ | ⟨a1, a2, a3⟩ | ⟨a1, a2, a3⟩
              all_goals
                first
                  | (rw [a3] at hc105 hsb HB
                     obtain ⟨r1, r2, r3⟩ := HPX.out (by simpa using a1)
                     have hb1 := HS.out.m1 _ (show pcl (nth ws (p + 3 + k)) < ws.length by omega)
                     rw [a2] at hb1
                     have hpxn : (nth ws (p + 3 + k) / 2).toNat = pcl (nth ws (p + 3 + k)) := rfl
                     rw [← hpxn] at hb1
                     have r4 : nth ws (p + 3 + k) / 2 < (ws.length : Int) := by omega
                     have r5 : 0 ≤ nth ws (p + 3 + k) / 2 := by omega
                     clear a2 a3 r1 r2 hpxn)
                  | (rw [a2] at hc105 hsb HB; clear a2)
              all_goals
                rcases wy with ⟨d11, d12⟩ | ⟨d11, d12, d13⟩ | ⟨d11, d12, d13⟩
              all_goals
                first
                  | (rw [d13] at hc105 hsb HB
                     obtain ⟨s1, s2, s3⟩ := HPY.out (by simpa using d11)
                     have hb2 := HS.out.m2 _ (show pcl (nth vs (q + 3 + k)) < vs.length by omega)
                     rw [d12] at hb2
                     have hpyn : (nth vs (q + 3 + k) / 2).toNat = pcl (nth vs (q + 3 + k)) := rfl
                     rw [← hpyn] at hb2
                     have s4 : nth vs (q + 3 + k) / 2 < (vs.length : Int) := by omega
                     have s5 : 0 ≤ nth vs (q + 3 + k) / 2 := by omega
                     clear d12 d13 s1 s2 hpyn)
                  | (rw [d12] at hc105 hsb HB; clear d12)
              all_goals
                have HC := Lib.hid hc105
                have HSB := Lib.hid hsb
                clear hc105 hsb
              all_goals
                go_wp2_with (first | (go_at_call 34; refine (rkind_any _ _ (by omega) (by omega)).mono ?_; rintro e w' ⟨rfl, rfl⟩) | (go_at_call 105; refine (HC.out _).mono ?_; rintro e w' ⟨rfl, mm, rfl⟩))
              all_goals
                first
                  | (go_roundw
                     case rel => exact ⟨k + 1, _, by go_num, by omega, rfl, HNEXT.out (by rw [HB.out, HSB.out])⟩
                     case measure => simp [intOf]; omega)
                  | (go_ret
                     exact ⟨ret_bool (by rw [hE.out, HSTOP.out (by rw [HB.out, HSB.out])]), _, rfl⟩)
            · have hm2 : ¬ nth ws (p + 2) % 4 = 2 := hf2
              have HB := Lib.hid (slotB_zero (x := nth ws (p + 3 + k)) (y := nth vs (q + 3 + k)) (ws := ws) (vs := vs) (f := f) (g := g) HF1.out hf2)
              clear hf2 hfx hfy
              cases hsb : sameB ws f (nth ws (p + 3 + k)) vs g (nth vs (q + 3 + k))
              all_goals
                have hc105 := fun n => HSAME0.out n _ _ HFX.out HFY.out
                rw [hsb] at hc105
                have HC := Lib.hid hc105
                have HSB := Lib.hid hsb
                clear hc105 hsb
              all_goals
                go_wp2_with (go_at_call 105; refine (HC.out _).mono ?_; rintro e w' ⟨rfl, mm, rfl⟩)
              all_goals
                first
                  | (go_roundw
                     case rel => exact ⟨k + 1, _, by go_num, by omega, rfl, HNEXT.out (by rw [HB.out, HSB.out])⟩
                     case measure => simp [intOf]; omega)
                  | (go_ret
                     exact ⟨ret_bool (by rw [hE.out, HSTOP.out (by rw [HB.out, HSB.out])]), _, rfl⟩)
        · obtain rfl : k = slotsN ws p := by omega
          have hks' : ¬ ((slotsN ws p : Nat) : Int) < nth ws (p + 2) / 4 := by have := HSD.out; omega
          go_wp2
          go_ret
          exact ⟨ret_bool (by rw [hE.out, HALL.out]), _, rfl⟩
  · have hE : Hid (thingsB ws f p vs g q = false) := by
      show _ = _; unfold thingsB
      have : nth ws (p + 2) ≠ nth vs (q + 2) := by simpa using hh
      rw [decide_eq_false this]; simp
    go_enter Try.func107, Try.ntmps107
    go_wp2_with fail
    go_quiet (fail)
    go_wp2
    go_ret
    exact ⟨ret_bool hE.out.symm, _, rfl⟩
end Go.Proofs.Ytjpppdacamhhfaa
