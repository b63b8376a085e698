/- gessoref17's counts and count.Trial: what they compute (several texts in one: a claim holds sixty files). Conditions: numbers of 64 bits. -/
import Derived.Test.YtjpppdacamhhfaaSeen
import Derived.Test.YtjpppdacamhhfaaMover
import Derived.Test.YtjpppdacamhhfaaISpec
import Derived.Maps.RangeWalk
import Derived.Test.YtjpppdacamhhfaaDone
import Derived.Test.YtjpppdacamhhfaaMem5
import Derived.Test.YtjpppdacamhhfaaRCheck
import Derived.StillTailTactics
import Derived.Laws.EntriesVeiled
namespace Go.Proofs.Ytjpppdacamhhfaa
open Go.RowKit
set_option linter.unusedVariables false

/-- Numbers of places, as a map. -/
def numM (D : List Nat) (f : Nat → Int) : Int → Option Value := fun k => if 0 ≤ k ∧ k.toNat ∈ D then some (.int .i64 (f k.toNat)) else none
def addF (f : Nat → Int) (p : Nat) (d : Int) : Nat → Int := fun q => if q = p then f q + d else f q
theorem numM_nil (f : Nat → Int) : numM [] f = fun _ => none := by funext k; simp [numM]
theorem numM_push (D : List Nat) (f : Nat → Int) (p : Nat) (d : Int) : put (numM D f) (p : Int) (.int .i64 (f p + d)) = numM (D ++ [p]) (addF f p d) := by
  funext k
  by_cases h : k = (p : Int)
  · subst h; rw [put_same]; simp [numM, addF]
  · rw [put_other _ _ h]
    unfold numM
    by_cases h0 : 0 ≤ k
    · have hne : k.toNat ≠ p := by omega
      have e : (k.toNat ∈ D ++ [p]) ↔ k.toNat ∈ D := by simp [hne]
      by_cases hc : k.toNat ∈ D
      · rw [if_pos ⟨h0, hc⟩, if_pos ⟨h0, e.2 hc⟩]; simp [addF, hne]
      · rw [if_neg (fun x => hc x.2), if_neg (fun x => hc (e.1 x.2))]
    · rw [if_neg (fun x => h0 x.1), if_neg (fun x => h0 x.1)]
theorem numM_get (D : List Nat) (f : Nat → Int) (p : Nat) (hz : p ∉ D → f p = 0) : (numM D f (p : Int)).getD (.int .i64 0) = .int .i64 (f p) := by
  unfold numM
  by_cases hc : p ∈ D
  · rw [if_pos ⟨by omega, by simpa using hc⟩]; simp
  · rw [if_neg (fun x => hc (by simpa using x.2)), hz hc]; rfl
theorem addF_zero {D : List Nat} {f : Nat → Int} (hz : ∀ q, q ∉ D → f q = 0) (p : Nat) (d : Int) : ∀ q, q ∉ D ++ [p] → addF f p d q = 0 := fun q hq => by
  rw [List.mem_append, List.mem_singleton] at hq
  unfold addF
  rw [if_neg (fun e => hq (.inr e))]
  exact hz q (fun e => hq (.inl e))

section
variable (Bx M n : Nat) (D : List Nat) (f : Nat → Int) (o : Int) (w : World) (hb : Blk w Bx 110 #[.map (some M)]) (hM : MapI w M n (numM D f)) (hz : pcl o ∉ D → f (pcl o) = 0)
    (hbd : -1000000000 ≤ f (pcl o) ∧ f (pcl o) ≤ 1000000000) (hk : kd o = 3)
include hb hM hz hbd hk
set_option maxRecDepth 100000 in
theorem count1_any : Calls Try.prog 150 #[.int .i64 o, .pointer (some ⟨Bx, 0, none⟩)] w fun e w' => e = .returned (.tuple #[]) ∧ MapI w' M (n + 1) (numM (D ++ [pcl o]) (addF f (pcl o) 1)) ∧ w.grownBy w' (some M) := by
  obtain ⟨k0, k1, k2⟩ := (kd_three o).1 hk
  have e2 : o / 2 = ((pcl o : Nat) : Int) := by unfold pcl; omega
  have e3 : o.tdiv 2 = ((pcl o : Nat) : Int) := by rw [Int.tdiv_eq_ediv_of_nonneg (by omega)]; exact e2
  have hpl : pcl o ≤ 5000 := by omega
  have hrun := hM.look (t := 110) (e := 3) Try.underlying110 (zero3 _) false ((pcl o : Nat) : Int) (by omega) (by omega)
  rw [numM_get D f (pcl o) hz] at hrun
  simp only [Bool.false_eq_true, if_false] at hrun
  have e5 : IntKind.i64.wrap ((pcl o : Nat) : Int) = ((pcl o : Nat) : Int) := IntWalk.i64_in _ (by omega)
  obtain ⟨x1, x2, x3⟩ := hb.f1
  have HM := Lib.hid hM
  have HP := Lib.hid (numM_push D f (pcl o) 1)
  obtain ⟨b1, b2⟩ := hbd
  clear hM hk hz hb
  go_enter Try.func150, Try.ntmps150
  go_wp2_with (at_mapUpdate; refine wpList_store rfl _ _ _ 110 3 rfl Try.underlying110 HM.out rfl ((pcl o : Nat) : Int) rfl (.int .i64 (f (pcl o) + 1)) rfl (by omega) (by omega) ?_; intro w5 hm5 hgr5; rw [HP.out] at hm5; have HM5 := Lib.hid hm5; have HG5 := Lib.hid hgr5; clear hm5 hgr5)
  go_end0
  exact ⟨rfl, HM5.out, HG5.out⟩
end
end Go.Proofs.Ytjpppdacamhhfaa

namespace Go.Proofs.Ytjpppdacamhhfaa
open Go.RowKit
set_option linter.unusedVariables false

/-- How often the thing p is among some references. -/
def cntF (L : List Int) (p : Nat) : Int := ((L.filter fun o => kd o == 3 && pcl o == p).length : Nat)
theorem cntF_nil : cntF [] = fun _ => 0 := rfl
theorem cntF_thing {L : List Int} {o : Int} (hk : kd o = 3) : cntF (L ++ [o]) = addF (cntF L) (pcl o) 1 := by
  funext p
  unfold cntF addF
  rw [List.filter_append, List.length_append]
  by_cases h : p = pcl o
  · subst h; simp [hk]
  · have h' : pcl o ≠ p := fun e => h e.symm
    simp [hk, h, h']
theorem cntF_other {L : List Int} {o : Int} (hk : kd o ≠ 3) : cntF (L ++ [o]) = cntF L := by
  funext p
  unfold cntF
  rw [List.filter_append, List.length_append]
  simp [hk]
theorem cntF_bd (L : List Int) (p : Nat) : 0 ≤ cntF L p ∧ cntF L p ≤ L.length := by
  have := List.length_filter_le (fun o => kd o == 3 && pcl o == p) L
  unfold cntF; omega

/-- Where count has got to: what references it has been told. -/
structure CntS (w0 w : World) (F Bx M : Nat) (L : List Int) : Prop where
  blk : Blk w Bx 110 #[.map (some M)]
  map_ : ∃ n D, MapI w M n (numM D (cntF L)) ∧ ∀ q, q ∉ D → cntF L q = 0
  below : Below F w0 w
  lo : F ≤ M ∧ F ≤ Bx ∧ Bx ≠ M ∧ F ≤ w.heap.size
section
variable {w0 w : World} {F Bx M : Nat} {L : List Int} (h : CntS w0 w F Bx M L)
include h
theorem CntS.turn {w' : World} (hb : Below w.heap.size w w') : CntS w0 w' F Bx M L := by
  obtain ⟨n, D, hm, hz⟩ := h.map_
  exact ⟨h.blk.below hb h.blk.lt, ⟨n, D, hm.below hb hm.lt, hz⟩, h.below.trans (hb.mono h.lo.2.2.2), h.lo.1, h.lo.2.1, h.lo.2.2.1, Nat.le_trans h.lo.2.2.2 hb.size⟩
end
/-- The closure that counts, as a value. -/
abbrev cntV (Bx : Nat) : Value := .func (.func 150) #[] #[.pointer (some ⟨Bx, 0, none⟩)]

section
variable (ws : List Int) (w0 w : World) (F Bx M Bf : Nat) (L : List Int) (o : Int) (hS : CntS w0 w F Bx M L) (hBf : Blk w Bf 126 #[cntV Bx]) (hL : L.length ≤ 100000000) (ho : fitsB ws o = true)
include hS hBf hL ho
set_option maxRecDepth 100000 in
theorem tell1_any : Calls Try.prog 151 #[.int .i64 o, .pointer (some ⟨Bf, 0, none⟩)] w fun e w' => e = .returned (.tuple #[]) ∧ CntS w0 w' F Bx M (L ++ [o]) ∧ Turned w w' (fun k => k = M) := by
  obtain ⟨x1, x2⟩ := fits_bd ho
  obtain ⟨n, D, hm, hz⟩ := hS.map_
  obtain ⟨y1, y2, y3⟩ := hBf.f1
  have HS := Lib.hid hS
  by_cases hk : kd o = 3
  · have hkb : (kd o == 3) = true := by simpa using hk
    have hbd := cntF_bd L (pcl o)
    have hcall := count1_any Bx M n D (cntF L) o w hS.blk hm (hz (pcl o)) (by omega) hk
    have HC := Lib.hid hcall
    have HE := Lib.hid (cntF_thing (L := L) hk)
    have HZ := Lib.hid (addF_zero hz (pcl o) 1)
    clear hS hBf ho hk hm hz hcall hbd
    go_enter Try.func151, Try.ntmps151
    go_wp2_with (first
      | (go_at_call 31; refine (kind_any _ _ (by omega) (by omega)).mono ?_; rintro e w' ⟨rfl, rfl⟩)
      | (go_at_call 150; refine HC.out.mono ?_; rintro e w5 ⟨rfl, hm5, hg5⟩; have HM5 := Lib.hid hm5; have HG5 := Lib.hid hg5; clear hm5 hg5))
    go_end0
    have hlo := HS.out.lo
    refine ⟨rfl, ⟨HS.out.blk.grown HG5.out (fun e => ?_), ⟨_, _, by rw [HE.out]; exact HM5.out, by rw [HE.out]; exact HZ.out⟩, HS.out.below.grown HG5.out hlo.2.2.2 (fun k e => ?_), hlo.1, hlo.2.1, hlo.2.2.1, Nat.le_trans hlo.2.2.2 HG5.out.size⟩, (Turned.refl _ _).grown HG5.out (fun k e => .inl (by cases e; rfl))⟩
    · exact hlo.2.2.1 (by cases e; rfl)
    · cases e; exact hlo.1
  · have hkb : (kd o == 3) = false := by simpa using hk
    have HE := Lib.hid (cntF_other (L := L) hk)
    clear hS hBf ho hk hm hz
    go_enter Try.func151, Try.ntmps151
    go_wp2_with (go_at_call 31; refine (kind_any _ _ (by omega) (by omega)).mono ?_; rintro e w' ⟨rfl, rfl⟩)
    go_end0
    refine ⟨rfl, ?_, Turned.refl _ _⟩
    have h := HS.out
    obtain ⟨n, D, hm, hz⟩ := h.map_
    exact ⟨h.blk, ⟨n, D, by rw [HE.out]; exact hm, by rw [HE.out]; exact hz⟩, h.below, h.lo⟩
end
end Go.Proofs.Ytjpppdacamhhfaa

namespace Go.Proofs.Ytjpppdacamhhfaa
open Go.RowKit
set_option linter.unusedVariables false

theorem take_app {L : List Int} {a : Int} {l : List Int} : L ++ (a :: l) = (L ++ [a]) ++ l := by simp

set_option maxRecDepth 100000 in
set_option maxHeartbeats 4000000 in
theorem given_any (ws : List Int) (g b o' c : Nat) (w0 w : World) (F Bx M : Nat) (L : List Int) (p : Nat) (hS : CntS w0 w F Bx M L) (hL : L.length ≤ 50000000) (hok : OkH ws) (hw : I64 ws) (hp : p ∈ places ws)
    (hvw : ∀ W, Below F w0 W → ViewAt W g ws) (hrw : ∀ W, Below F w0 W → Row W b o' ws ∧ b < W.heap.size) (hcw : ∀ W, Below F w0 W → W.cell? ⟨g, 0, none⟩ = some (.slice (some ⟨b, o', none⟩) ws.length c)) (hcc : ws.length ≤ c) :
    Calls Try.prog 109 #[.pointer (some ⟨g, 0, none⟩), .int .i64 p, cntV Bx] w fun e w' => e = .returned (.tuple #[]) ∧ CntS w0 w' F Bx M (L ++ holdsL ws p) := by
  have hq2 : ws.length ≤ 2000 := hok.most
  obtain ⟨p2, pl, pb⟩ := places_mem hp
  obtain ⟨m1, m2, m3, m4, m5⟩ := not_bad pb
  have hb1 : Below w.heap.size w (w.alloc (.cells #[cntV Bx] 126)) := (Below.refl _ _).alloc (Nat.le_refl _) _
  have HB1 := Lib.hid (Blk.new w 126 #[cntV Bx])
  have HS1 := Lib.hid (hS.turn hb1)
  have hMlt : M < w.heap.size := by obtain ⟨n, D, hm, _⟩ := hS.map_; exact hm.lt
  have HML := Lib.hid hMlt
  have hc0 := hcw _ HS1.out.below
  have hr0 := (hrw _ HS1.out.below).1 p pl
  have hcf := class_fits hok hp
  have HCF := Lib.hid hcf
  have HSF := Lib.hid (fun k hf (hk : k < slotsN ws p) => slot_fits hok hp (k := k) hf hk)
  have HVW := Lib.hid hvw; have HRW := Lib.hid hrw; have HCW := Lib.hid hcw; have HW := Lib.hid hw; have HBAD := Lib.hid pb
  have hsd : ((slotsN ws p : Nat) : Int) = nth ws (p + 2) / 4 := by have : slotsN ws p = (nth ws (p + 2) / 4).toNat := rfl; omega
  have hsl2 : slotsN ws p ≤ 2000 := by omega
  clear hS hok hp hvw hrw hcw hw pb hcf hb1 hMlt hsd
  have hmf : ∀ (fn : Fn) (first cap : Array Value) (W : World), (Instr.makeFunc fn first cap).run Try.prog W = .ok (.func fn first cap) W := fun _ _ _ _ => rfl
  go_enter Try.func109, Try.ntmps109
  go_wp2_with fail
  refine (tell1_any ws w0 _ F Bx M w.heap.size L (nth ws p) HS1.out HB1.out (by omega) HCF.out).mono ?_
  rintro e w2 ⟨rfl, hs2, ht2⟩
  have HS2 := Lib.hid hs2
  have HB2 := Lib.hid (ht2.blk HB1.out (by have := HML.out; omega))
  have hH : holdsL ws p = nth ws p :: (if formOf ws p = 0 then slotsL ws p else []) := rfl
  have HH := Lib.hid hH
  generalize hBf : w.heap.size = Bf at *
  have HBM : Hid (Bf ≠ M) := by have := HML.out; show _ ≠ _; omega
  have HHBf := Lib.hid hBf
  clear hs2 ht2 hc0 hr0 hH HS1 HB1 hBf
  go_wp2_with fail
  refine (formv_any (HVW.out _ HS2.out.below) HW.out (by omega) p (by omega)).mono ?_
  rintro e w' ⟨rfl, rfl⟩
  by_cases hf : formOf ws p = 0
  · have hfb : (formOf ws p == 0) = true := by simpa using hf
    have HF : Hid (L ++ holdsL ws p = (L ++ [nth ws p]) ++ slotsL ws p) := by show _ = _; rw [HH.out, if_pos hf, take_app]
    have HFO := Lib.hid hf
    clear hf
    go_wp2_with fail
    refine (slots_any ws g b o' c p w2 (HCW.out _ HS2.out.below) (HRW.out _ HS2.out.below).1 HW.out (by omega) HBAD.out hcc).mono ?_
    rintro e w3 ⟨rfl, m, rfl⟩
    have hin : ∀ W, Below F w0 W → Ints W (slotsA b o' c p) (slotsL ws p) := fun W h => ints_slots (HRW.out W h).1 (HRW.out W h).2 HBAD.out hcc
    have HIN := Lib.hid hin
    have HSL := Lib.hid (slotsL_len HBAD.out)
    have HNT := Lib.hid (fun k (hk : k < slotsN ws p) => slotsL_nth HBAD.out hk)
    have HS3 := Lib.hid (HS2.out.turn (belowN _ _ m))
    have HB3 := Lib.hid (HB2.out.below (belowN w2.heap.size _ m) HB2.out.lt)
    clear hin
    generalize slotsA b o' c p = A9 at *
    go_wp2_with fail
    go_loopw [27] (fun i wr => ∃ j : Nat, i = .int .i64 j ∧ j ≤ slotsN ws p ∧ CntS w0 wr F Bx M ((L ++ [nth ws p]) ++ (slotsL ws p).take j) ∧ Blk wr Bf 126 #[cntV Bx]) (fun i _ => slotsN ws p - (intOf i).toNat)
    case atStart => exact ⟨0, rfl, Nat.zero_le _, by rw [List.take_zero, List.append_nil]; exact HS3.out, HB3.out⟩
    case round =>
      obtain ⟨j, rfl, hj, hs, hb⟩ := hrel
      have HS4 := Lib.hid hs; have HB4 := Lib.hid hb
      clear hs hb
      by_cases hjl : j < slotsN ws p
      · obtain ⟨b1, o1, rfl, -, r1⟩ := HIN.out _ HS4.out.below (by have := HSL.out; omega)
        have e1 := r1 j (by have := HSL.out; omega)
        rw [HNT.out j hjl] at e1
        have hcf := HSF.out j (by rw [HFO.out]; decide) hjl
        have HCF4 := Lib.hid hcf
        have hll : (L ++ [nth ws p] ++ (slotsL ws p).take j).length ≤ 100000000 := by
          have := List.length_take_le j (slotsL ws p)
          simp only [List.length_append, List.length_singleton]; omega
        have hTK := Lib.hid (take_slot (xs := slotsL ws p) (k := j) (by have := HSL.out; omega))
        clear r1 hcf
        go_wp2_with fail
        refine (tell1_any ws w0 _ F Bx M Bf _ (nth ws (p + 3 + j)) HS4.out HB4.out hll HCF4.out).mono ?_
        rintro e w6 ⟨rfl, hs6, ht6⟩
        have HS6 := Lib.hid hs6
        have HB6 := Lib.hid (ht6.blk HB4.out HBM.out)
        clear hs6 ht6
        go_wp2_with fail
        go_roundw
        case rel =>
          refine ⟨j + 1, by go_num, by omega, ?_, HB6.out⟩
          have h9 := HS6.out
          rw [List.append_assoc, ← HNT.out j hjl, ← hTK.out] at h9
          exact h9
        case measure => simp [intOf]; omega
      · obtain rfl : j = slotsN ws p := by omega
        have h9 := HS4.out
        rw [← HSL.out, List.take_length, ← HF.out] at h9
        have H9 := Lib.hid h9
        clear h9
        go_wp2_with fail
        go_end0
        exact ⟨rfl, H9.out⟩
  · have hfb : (formOf ws p == 0) = false := by simpa using hf
    have HF : Hid (L ++ holdsL ws p = L ++ [nth ws p]) := by show _ = _; rw [HH.out, if_neg hf]
    clear hf
    go_wp2_with fail
    go_end0
    exact ⟨rfl, by rw [HF.out]; exact HS2.out⟩
end Go.Proofs.Ytjpppdacamhhfaa

namespace Go.Proofs.Ytjpppdacamhhfaa
open Go.RowKit
set_option linter.unusedVariables false

/-- All that is held: by the roots, by the things. -/
def allL (ws rs : List Int) : List Int := rs ++ (places ws).flatMap (holdsL ws)
theorem CntS.more {w0 w w' : World} {F Bx M n : Nat} {L : List Int} {D : List Nat} {o : Int} (h : CntS w0 w F Bx M L) (hk : kd o = 3) (hz : ∀ q, q ∉ D → cntF L q = 0)
    (hm : MapI w' M (n + 1) (numM (D ++ [pcl o]) (addF (cntF L) (pcl o) 1))) (hg : w.grownBy w' (some M)) : CntS w0 w' F Bx M (L ++ [o]) :=
  ⟨h.blk.grown hg (fun e => h.lo.2.2.1 (by cases e; rfl)), ⟨_, _, by rw [cntF_thing hk]; exact hm, by rw [cntF_thing hk]; exact addF_zero hz _ _⟩,
    h.below.grown hg h.lo.2.2.2 (fun k e => by cases e; exact h.lo.1), h.lo.1, h.lo.2.1, h.lo.2.2.1, Nat.le_trans h.lo.2.2.2 hg.size⟩
theorem CntS.pass {w0 w : World} {F Bx M : Nat} {L : List Int} {o : Int} (h : CntS w0 w F Bx M L) (hk : kd o ≠ 3) : CntS w0 w F Bx M (L ++ [o]) := by
  obtain ⟨n, D, hm, hz⟩ := h.map_
  exact ⟨h.blk, ⟨n, D, by rw [cntF_other hk]; exact hm, by rw [cntF_other hk]; exact hz⟩, h.below, h.lo⟩
theorem flat_le {f : Nat → List Int} {c : Nat} : ∀ (l : List Nat), (∀ p ∈ l, (f p).length ≤ c) → (l.flatMap f).length ≤ l.length * c
  | [], _ => by simp
  | p :: l, h => by
    have h1 := h p List.mem_cons_self
    have h2 := flat_le l (fun q hq => h q (List.mem_cons_of_mem _ hq))
    simp only [List.flatMap_cons, List.length_append, List.length_cons]
    rw [Nat.succ_mul]; omega
theorem holds_le {ws : List Int} (hok : OkH ws) {p : Nat} (hp : p ∈ places ws) : (holdsL ws p).length ≤ 2001 := by
  have hb := (places_mem hp).2.2
  have hl := slotsL_len hb
  have hn := not_bad hb
  have hm := hok.most
  have hs : slotsN ws p = (nth ws (p + 2) / 4).toNat := rfl
  unfold holdsL
  rw [List.length_cons]
  split
  · omega
  · simp
/-- How counts ends. -/
def CountEnd (ws rs : List Int) (w : World) (e : Ending) (w' : World) : Prop :=
  ∃ M n D, e = .returned (.map (some M)) ∧ MapI w' M n (numM D (cntF (allL ws rs))) ∧ (∀ q, q ∉ D → cntF (allL ws rs) q = 0) ∧ w.heap.size ≤ M ∧ Below w.heap.size w w'

set_option maxRecDepth 100000 in
set_option maxHeartbeats 4000000 in
theorem counts_any (ws rs : List Int) (g : Nat) (B : Option Addr) (d : Nat) (w : World) (hv : ViewAt w g ws) (hok : OkH ws) (hw : I64 ws) (hB : Ints w B rs) (hrl : rs.length ≤ 1000000) (hfit : ∀ o ∈ rs, fitsB ws o = true) :
    Calls Try.prog 108 #[.pointer (some ⟨g, 0, none⟩), .slice B rs.length d] w (CountEnd ws rs w) := by
  have hq2 : ws.length ≤ 2000 := hok.most
  have hmm := @run_makeMap Try.prog
  have hmf : ∀ (fn : Fn) (first cap : Array Value) (W : World), (Instr.makeFunc fn first cap).run Try.prog W = .ok (.func fn first cap) W := fun _ _ _ _ => rfl
  obtain ⟨b, o', c', M', A', oc, v0, -, v2, hg, hb, hcc, hrow, hord⟩ := hv.cells
  have hz1 : Hid ((w.alloc (.map #[] 0)).heap.size = w.heap.size + 1) := by show _ = _; simp
  have hx0 : Below w.heap.size w ((w.alloc (.map #[] 0)).alloc (.cells #[.map (some w.heap.size)] 110)) := ((Below.refl _ _).alloc (Nat.le_refl _) _).alloc (by simp) _
  have hcs : CntS w ((w.alloc (.map #[] 0)).alloc (.cells #[.map (some w.heap.size)] 110)) w.heap.size (w.heap.size + 1) w.heap.size [] := by
    refine ⟨?_, ⟨0, [], ?_, fun _ _ => rfl⟩, hx0, Nat.le_refl _, by omega, by omega, by simp; omega⟩
    · have := Blk.new (w.alloc (.map #[] 0)) 110 #[.map (some w.heap.size)]
      rwa [hz1.out] at this
    · rw [numM_nil]; exact (MapI.new w).alloc _
  have HCS := Lib.hid hcs
  have hvw : ∀ W, Below w.heap.size w W → ViewAt W g ws := fun W h => hv.below h
  have hrw : ∀ W, Below w.heap.size w W → Row W b o' ws ∧ b < W.heap.size := fun W h => ⟨hrow.below h hb, Nat.lt_of_lt_of_le hb h.size⟩
  have hcw : ∀ W, Below w.heap.size w W → W.cell? ⟨g, 0, none⟩ = some (.slice (some ⟨b, o', none⟩) ws.length c') := fun W h => (h.cell (p := ⟨g, 0, none⟩) hg).trans v0
  have hc2 : ∀ W, Below w.heap.size w W → W.cell? ⟨g, 2, none⟩ = some (.slice A' (places ws).length oc) := fun W h => (h.cell (p := ⟨g, 2, none⟩) hg).trans v2
  have hbw : ∀ W, Below w.heap.size w W → Ints W B rs := fun W h => hB.below h
  have how : ∀ W, Below w.heap.size w W → Ints W A' (ups (places ws)) := fun W h => hord.below h
  have hlp : (places ws).length ≤ ws.length := places_len ws
  have HVW := Lib.hid hvw; have HRW := Lib.hid hrw; have HCW := Lib.hid hcw; have HC2 := Lib.hid hc2; have HBW := Lib.hid hbw; have HOW := Lib.hid how
  have HOK := Lib.hid hok; have HW := Lib.hid hw; have HFIT := Lib.hid hfit
  clear hv hok hw hB hfit v0 v2 hrow hord hx0 hcs hvw hrw hcw hc2 hbw how
  go_enter Try.func108, Try.ntmps108
  go_wp2_with fail
  generalize ((w.alloc (.map #[] 0)).alloc (.cells #[.map (some w.heap.size)] 110)) = w1 at *
  clear hz1
  have hFB : w.heap.size < w.heap.size + 1 := Nat.lt_succ_self _
  generalize w.heap.size + 1 = Bx at *
  generalize hF : w.heap.size = F at *
  have HFE := Lib.hid hF; clear hF
  go_loopw [13] (fun i wr => ∃ j : Nat, i = .int .i64 j ∧ j ≤ rs.length ∧ CntS w wr F Bx F (rs.take j)) (fun i _ => rs.length - (intOf i).toNat)
  case atStart => exact ⟨0, rfl, Nat.zero_le _, HCS.out⟩
  case round =>
    obtain ⟨j, rfl, hj, hs⟩ := hrel
    have HS := Lib.hid hs
    by_cases hjl : j < rs.length
    · obtain ⟨b1, o1, rfl, -, r1⟩ := HBW.out _ HS.out.below (by omega)
      have e1 := r1 j hjl
      have hfj := HFIT.out (nth rs j) (by rw [nth_eq hjl]; exact List.getElem_mem _)
      obtain ⟨f1, f2⟩ := fits_bd hfj
      have hTK := Lib.hid (take_slot hjl)
      clear r1 hfj
      by_cases hk : kd (nth rs j) = 3
      · have hkb : (kd (nth rs j) == 3) = true := by simpa using hk
        obtain ⟨n, D, hm, hz⟩ := hs.map_
        obtain ⟨y1, y2, y3⟩ := hs.blk.f1
        obtain ⟨k0, k1, k2⟩ := (kd_three (nth rs j)).1 hk
        have hbd := cntF_bd (rs.take j) (pcl (nth rs j))
        have hlt := List.length_take_le j rs
        have e2 : nth rs j / 2 = ((pcl (nth rs j) : Nat) : Int) := by unfold pcl; omega
        have e3 : (nth rs j).tdiv 2 = ((pcl (nth rs j) : Nat) : Int) := by rw [Int.tdiv_eq_ediv_of_nonneg (by omega)]; exact e2
        have hpl : pcl (nth rs j) ≤ 5000 := by omega
        have hrun := hm.look (t := 110) (e := 3) Try.underlying110 (zero3 _) false ((pcl (nth rs j) : Nat) : Int) (by omega) (by omega)
        rw [numM_get D _ (pcl (nth rs j)) (hz _)] at hrun
        simp only [Bool.false_eq_true, if_false] at hrun
        have e5 : IntKind.i64.wrap ((pcl (nth rs j) : Nat) : Int) = ((pcl (nth rs j) : Nat) : Int) := IntWalk.i64_in _ (by omega)
        have HM := Lib.hid hm
        have HP := Lib.hid (numM_push D (cntF (rs.take j)) (pcl (nth rs j)) 1)
        have hmore : ∀ w', MapI w' F (n + 1) (numM (D ++ [pcl (nth rs j)]) (addF (cntF (rs.take j)) (pcl (nth rs j)) 1)) → wr.grownBy w' (some F) → CntS w w' F Bx F (rs.take j ++ [nth rs j]) := fun w' h1 h2 => hs.more hk hz h1 h2
        have HMO := Lib.hid hmore
        clear hs hm hz hk k0 hmore
        go_wp2_with (first
          | (go_at_call 31; refine (kind_any _ _ (by omega) (by omega)).mono ?_; rintro e w' ⟨rfl, rfl⟩)
          | (at_mapUpdate; refine wpList_store rfl _ _ _ 110 3 rfl Try.underlying110 HM.out rfl ((pcl (nth rs j) : Nat) : Int) rfl (.int .i64 (cntF (rs.take j) (pcl (nth rs j)) + 1)) rfl (by omega) (by omega) ?_; intro w5 hm5 hgr5; rw [HP.out] at hm5; have HS5 := Lib.hid (HMO.out w5 hm5 hgr5); clear hm5 hgr5))
        go_roundw
        case rel => exact ⟨j + 1, by go_num, by omega, by rw [hTK.out]; exact HS5.out⟩
        case measure => simp [intOf]; omega
      · have hkb : (kd (nth rs j) == 3) = false := by simpa using hk
        have HS5 := Lib.hid (hs.pass hk)
        clear hs hk
        go_wp2_with (go_at_call 31; refine (kind_any _ _ (by omega) (by omega)).mono ?_; rintro e w' ⟨rfl, rfl⟩)
        go_roundw
        case rel => exact ⟨j + 1, by go_num, by omega, by rw [hTK.out]; exact HS5.out⟩
        case measure => simp [intOf]; omega
    · obtain rfl : j = rs.length := by omega
      rw [List.take_length] at HS hs
      have hc := HC2.out _ hs.below
      clear hs HCS
      go_wp2_with fail
      clear hc
      go_loopw [31] (fun i wr => ∃ j : Nat, i = .int .i64 j ∧ j ≤ (places ws).length ∧ CntS w wr F Bx F (rs ++ ((places ws).take j).flatMap (holdsL ws))) (fun i _ => (places ws).length - (intOf i).toNat)
      case atStart => exact ⟨0, rfl, Nat.zero_le _, by rw [List.take_zero, List.flatMap_nil, List.append_nil]; exact HS.out⟩
      case round =>
        clear HS
        obtain ⟨j, rfl, hj, hs⟩ := hrel
        have HS := Lib.hid hs
        by_cases hjl : j < (places ws).length
        · obtain ⟨b1, o1, hA, -, r1⟩ := HOW.out _ HS.out.below (by rw [ups_len]; omega)
          subst hA
          have e1 := r1 j (by rw [ups_len]; exact hjl)
          rw [ups_nth hjl, getD_el hjl] at e1
          have hpm : (places ws)[j] ∈ places ws := List.getElem_mem hjl
          have HPM := Lib.hid hpm
          have hpb := places_mem hpm
          have hll : (rs ++ ((places ws).take j).flatMap (holdsL ws)).length ≤ 50000000 := by
            have h1 := flat_le (f := holdsL ws) (c := 2001) ((places ws).take j) (fun p hp => holds_le HOK.out (List.mem_of_mem_take hp))
            have h2 := List.length_take_le j (places ws)
            rw [List.length_append]; omega
          have hTK : (places ws).take (j + 1) = (places ws).take j ++ [(places ws)[j]] := List.take_succ_eq_append_getElem hjl
          have HTK := Lib.hid hTK
          have hllH := Lib.hid hll
          obtain ⟨y1, y2, y3⟩ := hs.blk.f1
          clear hs r1 hpm hTK
          generalize (places ws)[j] = p at *
          obtain ⟨p2, pl, -⟩ := hpb
          clear hll
          have HLL := hllH
          go_wp2_with fail
          refine (given_any ws g b o' c' w _ F Bx F _ p HS.out HLL.out HOK.out HW.out HPM.out HVW.out HRW.out HCW.out hcc).mono ?_
          rintro e w6 ⟨rfl, hs6⟩
          have HS6 := Lib.hid hs6
          clear hs6
          go_wp2_with fail
          go_roundw
          case rel =>
            refine ⟨j + 1, by go_num, by omega, ?_⟩
            have h9 := HS6.out
            rw [HTK.out, List.flatMap_append, ← List.append_assoc]
            simpa using h9
          case measure => simp [intOf]; omega
        · obtain rfl : j = (places ws).length := by omega
          obtain ⟨y1, y2, y3⟩ := hs.blk.f1
          rw [List.take_length] at HS
          obtain ⟨n, D, hm, hz⟩ := HS.out.map_
          have HM := Lib.hid hm; have HZ := Lib.hid hz
          clear hs hm hz
          go_wp2_with fail
          refine bodyPost_ret (v := .map (some F)) (by simp [results, Try.results108, go_sem]) rfl ⟨F, n, D, rfl, HM.out, HZ.out, by rw [HFE.out]; exact Nat.le_refl _, by rw [HFE.out]; exact HS.out.below⟩
end Go.Proofs.Ytjpppdacamhhfaa

namespace Go.Proofs.Ytjpppdacamhhfaa
open Go.RowKit
set_option linter.unusedVariables false

/-- How a closure ends that was told one more. -/
def ToldEnd (I : List Int → World → Prop) (M : Nat) (L : List Int) (w : World) (e : Ending) (w' : World) : Prop := e = .returned (.tuple #[]) ∧ I L w' ∧ Turned w w' (fun k => k = M)
theorem ToldEnd.mk {I : List Int → World → Prop} {M : Nat} {L : List Int} {w w' : World} (h1 : I L w') (h2 : Turned w w' (fun k => k = M)) : ToldEnd I M L w (.returned (.tuple #[])) w' := ⟨rfl, h1, h2⟩

set_option maxRecDepth 100000 in
set_option maxHeartbeats 4000000 in
theorem given_gen (ws : List Int) (g b o' c : Nat) (w0 w : World) (F M kf : Nat) (cp : Array Value) (I : List Int → World → Prop) (L : List Int) (p : Nat) (hI : I L w) (hL : L.length ≤ 50000000) (hok : OkH ws) (hw : I64 ws) (hp : p ∈ places ws)
    (hvw : ∀ W, Below F w0 W → ViewAt W g ws) (hrw : ∀ W, Below F w0 W → Row W b o' ws ∧ b < W.heap.size) (hcw : ∀ W, Below F w0 W → W.cell? ⟨g, 0, none⟩ = some (.slice (some ⟨b, o', none⟩) ws.length c)) (hcc : ws.length ≤ c)
    (hMl : M < w.heap.size) (hIb : ∀ L W, I L W → Below F w0 W) (hIt : ∀ L W W', I L W → Below W.heap.size W W' → I L W')
    (htell : ∀ (Bf : Nat) (L : List Int) (o : Int) (W : World), I L W → Blk W Bf 126 #[.func (.func kf) #[] cp] → Bf ≠ M → o ∈ holdsL ws p → fitsB ws o = true → L.length ≤ 100000000 →
      Calls Try.prog 151 #[.int .i64 o, .pointer (some ⟨Bf, 0, none⟩)] W (ToldEnd I M (L ++ [o]) W)) :
    Calls Try.prog 109 #[.pointer (some ⟨g, 0, none⟩), .int .i64 p, .func (.func kf) #[] cp] w (ToldEnd I M (L ++ holdsL ws p) w) := by
  have hq2 : ws.length ≤ 2000 := hok.most
  obtain ⟨p2, pl, pb⟩ := places_mem hp
  obtain ⟨m1, m2, m3, m4, m5⟩ := not_bad pb
  have hb1 : Below w.heap.size w (w.alloc (.cells #[.func (.func kf) #[] cp] 126)) := (Below.refl _ _).alloc (Nat.le_refl _) _
  have HB1 := Lib.hid (Blk.new w 126 #[.func (.func kf) #[] cp])
  have hs1 := hIt _ _ _ hI hb1
  have HT1 := Lib.hid ((Turned.refl w (fun k => k = M)).alloc (.cells #[.func (.func kf) #[] cp] 126))
  have hbe1 := hIb _ _ hs1
  have hc0 := hcw _ hbe1
  have hr0 := (hrw _ hbe1).1 p pl
  have HS1 := Lib.hid hs1
  have hcf := class_fits hok hp
  have HCF := Lib.hid hcf
  have HSF := Lib.hid (fun k hf (hk : k < slotsN ws p) => slot_fits hok hp (k := k) hf hk)
  have HVW := Lib.hid hvw; have HRW := Lib.hid hrw; have HCW := Lib.hid hcw; have HW := Lib.hid hw; have HBAD := Lib.hid pb
  have HIB := Lib.hid hIb; have HIT := Lib.hid hIt; have HTELL := Lib.hid htell
  have hsd : ((slotsN ws p : Nat) : Int) = nth ws (p + 2) / 4 := by have : slotsN ws p = (nth ws (p + 2) / 4).toNat := rfl; omega
  have hsl2 : slotsN ws p ≤ 2000 := by omega
  have hH : holdsL ws p = nth ws p :: (if formOf ws p = 0 then slotsL ws p else []) := rfl
  have HH := Lib.hid hH
  have HIN0 : Hid (nth ws p ∈ holdsL ws p) := by show _ ∈ _; rw [hH]; exact List.mem_cons_self
  have HINS : Hid (∀ j, formOf ws p = 0 → j < slotsN ws p → nth ws (p + 3 + j) ∈ holdsL ws p) := fun j hf hj => by
    rw [hH, if_pos hf]; exact List.mem_cons_of_mem _ ((slotsL_mem pb).2 ⟨j, hj, rfl⟩)
  clear hI hok hp hvw hrw hcw hw pb hcf hb1 hsd hIb hIt htell hs1 hbe1 hH
  have hmf : ∀ (fn : Fn) (first cap : Array Value) (W : World), (Instr.makeFunc fn first cap).run Try.prog W = .ok (.func fn first cap) W := fun _ _ _ _ => rfl
  go_enter Try.func109, Try.ntmps109
  go_wp2_with fail
  refine (HTELL.out w.heap.size L (nth ws p) _ HS1.out HB1.out (by omega) HIN0.out HCF.out (by omega)).mono ?_
  rintro e w2 ⟨rfl, hs2, ht2⟩
  have HS2 := Lib.hid hs2
  have HB2 := Lib.hid (ht2.blk HB1.out (by omega))
  have HT2 := Lib.hid (HT1.out.trans ht2 (fun k _ h => h))
  generalize hBf : w.heap.size = Bf at *
  have HBM : Hid (Bf ≠ M) := by show _ ≠ _; omega
  have HHBf := Lib.hid hBf
  clear hs2 ht2 hc0 hr0 HS1 HB1 hBf HT1 hMl
  go_wp2_with fail
  refine (formv_any (HVW.out _ (HIB.out _ _ HS2.out)) HW.out (by omega) p (by omega)).mono ?_
  rintro e w' ⟨rfl, rfl⟩
  by_cases hf : formOf ws p = 0
  · have hfb : (formOf ws p == 0) = true := by simpa using hf
    have HF : Hid (L ++ holdsL ws p = (L ++ [nth ws p]) ++ slotsL ws p) := by show _ = _; rw [HH.out, if_pos hf, take_app]
    have HFO := Lib.hid hf
    clear hf
    go_wp2_with fail
    refine (slots_any ws g b o' c p w2 (HCW.out _ (HIB.out _ _ HS2.out)) (HRW.out _ (HIB.out _ _ HS2.out)).1 HW.out (by omega) HBAD.out hcc).mono ?_
    rintro e w3 ⟨rfl, m, rfl⟩
    have hin : ∀ W, Below F w0 W → Ints W (slotsA b o' c p) (slotsL ws p) := fun W h => ints_slots (HRW.out W h).1 (HRW.out W h).2 HBAD.out hcc
    have HIN := Lib.hid hin
    have HSL := Lib.hid (slotsL_len HBAD.out)
    have HNT := Lib.hid (fun k (hk : k < slotsN ws p) => slotsL_nth HBAD.out hk)
    have HS3 := Lib.hid (HIT.out _ _ _ HS2.out (belowN _ _ m))
    have HB3 := Lib.hid (HB2.out.below (belowN w2.heap.size _ m) HB2.out.lt)
    have HT3 := Lib.hid (HT2.out.drewN m)
    clear hin
    generalize slotsA b o' c p = A9 at *
    go_wp2_with fail
    go_loopw [27] (fun i wr => ∃ j : Nat, i = .int .i64 j ∧ j ≤ slotsN ws p ∧ I ((L ++ [nth ws p]) ++ (slotsL ws p).take j) wr ∧ Blk wr Bf 126 #[.func (.func kf) #[] cp] ∧ Turned w wr (fun k => k = M)) (fun i _ => slotsN ws p - (intOf i).toNat)
    case atStart => exact ⟨0, rfl, Nat.zero_le _, by rw [List.take_zero, List.append_nil]; exact HS3.out, HB3.out, HT3.out⟩
    case round =>
      obtain ⟨j, rfl, hj, hs, hb, ht⟩ := hrel
      have HS4 := Lib.hid hs; have HB4 := Lib.hid hb; have HT4 := Lib.hid ht
      clear hs hb ht
      by_cases hjl : j < slotsN ws p
      · obtain ⟨b1, o1, rfl, -, r1⟩ := HIN.out _ (HIB.out _ _ HS4.out) (by have := HSL.out; omega)
        have e1 := r1 j (by have := HSL.out; omega)
        rw [HNT.out j hjl] at e1
        have hcf := HSF.out j (by rw [HFO.out]; decide) hjl
        have HCF4 := Lib.hid hcf
        have hll : (L ++ [nth ws p] ++ (slotsL ws p).take j).length ≤ 100000000 := by
          have := List.length_take_le j (slotsL ws p)
          simp only [List.length_append, List.length_singleton]; omega
        have HLL := Lib.hid hll
        have hTK := Lib.hid (take_slot (xs := slotsL ws p) (k := j) (by have := HSL.out; omega))
        clear r1 hcf hll
        go_wp2_with fail
        refine (HTELL.out Bf _ (nth ws (p + 3 + j)) _ HS4.out HB4.out HBM.out (HINS.out j HFO.out hjl) HCF4.out HLL.out).mono ?_
        rintro e w6 ⟨rfl, hs6, ht6⟩
        have HS6 := Lib.hid hs6
        have HB6 := Lib.hid (ht6.blk HB4.out HBM.out)
        have HT6 := Lib.hid (HT4.out.trans ht6 (fun k _ h => h))
        clear hs6 ht6
        go_wp2_with fail
        go_roundw
        case rel =>
          refine ⟨j + 1, by go_num, by omega, ?_, HB6.out, HT6.out⟩
          have h9 := HS6.out
          rw [List.append_assoc, ← HNT.out j hjl, ← hTK.out] at h9
          exact h9
        case measure => simp [intOf]; omega
      · obtain rfl : j = slotsN ws p := by omega
        have h9 := HS4.out
        rw [← HSL.out, List.take_length, ← HF.out] at h9
        have H9 := Lib.hid h9
        clear h9
        go_wp2_with fail
        go_end0
        exact .mk H9.out HT4.out
  · have hfb : (formOf ws p == 0) = false := by simpa using hf
    have HF : Hid (L ++ holdsL ws p = L ++ [nth ws p]) := by show _ = _; rw [HH.out, if_neg hf]
    clear hf
    go_wp2_with fail
    go_end0
    exact .mk (by rw [HF.out]; exact HS2.out) HT2.out
end Go.Proofs.Ytjpppdacamhhfaa

namespace Go.Proofs.Ytjpppdacamhhfaa
open Go.RowKit
set_option linter.unusedVariables false

/-- What is left of counts while references are taken away. -/
def subF (A L : List Int) (q : Nat) : Int := cntF A q - cntF L q
theorem subF_thing {A L : List Int} {o : Int} (hk : kd o = 3) : subF A (L ++ [o]) = addF (subF A L) (pcl o) (-1) := by
  funext q
  show cntF A q - cntF (L ++ [o]) q = addF (subF A L) (pcl o) (-1) q
  rw [cntF_thing hk]
  unfold addF subF
  split <;> omega
theorem subF_other {A L : List Int} {o : Int} (hk : kd o ≠ 3) : subF A (L ++ [o]) = subF A L := by
  funext q
  unfold subF
  rw [cntF_other hk]
theorem subF_nil (A : List Int) : subF A [] = cntF A := by funext q; unfold subF; rw [cntF_nil]; simp
theorem cntF_append (A B : List Int) (q : Nat) : cntF (A ++ B) q = cntF A q + cntF B q := by
  unfold cntF
  rw [List.filter_append, List.length_append]; omega
theorem subF_all (rs B : List Int) : subF (rs ++ B) B = cntF rs := by funext q; unfold subF; rw [cntF_append]; omega
theorem cntF_pos {L : List Int} {p : Nat} : 0 < cntF L p ↔ ∃ o ∈ L, kd o = 3 ∧ pcl o = p := by
  unfold cntF
  constructor
  · intro h
    have h2 : 0 < (L.filter fun o => kd o == 3 && pcl o == p).length := by omega
    obtain ⟨o, ho⟩ := List.exists_mem_of_length_pos h2
    have := List.mem_filter.1 ho
    simp at this
    exact ⟨o, this.1, this.2.1, this.2.2⟩
  · rintro ⟨o, ho, hk, hp⟩
    have : o ∈ L.filter fun o => kd o == 3 && pcl o == p := List.mem_filter.2 ⟨ho, by simp [hk, hp]⟩
    have := List.length_pos_of_mem this
    omega

/-- How far holding has come from H0. -/
structure HeldI (ws rs : List Int) (H0 H : List Nat) (L : List Int) : Prop where
  nodup : H.Nodup
  sub : ∀ p ∈ H0, p ∈ H
  hit : ∀ o ∈ L, kd o = 3 → pcl o ∈ H
  closed : ∀ p ∈ H, p ∉ H0 → ∀ o ∈ holdsL ws p, kd o = 3 → pcl o ∈ H
  rch : ∀ p ∈ H, Rch ws rs p
section
variable {ws rs : List Int} {H0 H H' : List Nat} {L : List Int} {o : Int}
theorem HeldI.start (hn : H.Nodup) (hr : ∀ p ∈ H, Rch ws rs p) : HeldI ws rs H H [] := ⟨hn, fun _ h => h, fun o h => by simp at h, fun p h1 h2 => absurd h1 h2, hr⟩
theorem HeldI.pass (h : HeldI ws rs H0 H L) (ho : kd o = 3 → pcl o ∈ H) : HeldI ws rs H0 H (L ++ [o]) :=
  ⟨h.nodup, h.sub, fun x hx hk => by
    rcases List.mem_append.1 hx with hx | hx
    · exact h.hit x hx hk
    · rw [List.mem_singleton] at hx; subst hx; exact ho hk, h.closed, h.rch⟩
theorem HeldI.step (h : HeldI ws rs H0 H L) (h' : HeldI ws rs H H' [o]) : HeldI ws rs H0 H' (L ++ [o]) :=
  ⟨h'.nodup, fun p hp => h'.sub p (h.sub p hp), fun x hx hk => by
    rcases List.mem_append.1 hx with hx | hx
    · exact h'.sub _ (h.hit x hx hk)
    · exact h'.hit x hx hk, fun p hp hn x hx hk => by
    by_cases hH : p ∈ H
    · exact h'.sub _ (h.closed p hH hn x hx hk)
    · exact h'.closed p hp hH x hx hk, h'.rch⟩
theorem HeldI.deep {p : Nat} (h : HeldI ws rs (H ++ [p]) H' (holdsL ws p)) (hp : pcl o = p) : HeldI ws rs H H' [o] :=
  ⟨h.nodup, fun q hq => h.sub q (List.mem_append_left _ hq), fun x hx hk => by
    rw [List.mem_singleton] at hx; subst hx
    rw [hp]; exact h.sub p (by simp), fun q hq hn x hx hk => by
    by_cases e : q = p
    · subst e; exact h.hit x hx hk
    · exact h.closed q hq (fun hm => by
        rcases List.mem_append.1 hm with hm | hm
        · exact hn hm
        · rw [List.mem_singleton] at hm; exact e hm) x hx hk, h.rch⟩
theorem nodup_len {a b : List Nat} (h : a.Nodup) (hs : ∀ p ∈ a, p ∈ b) : a.length ≤ b.length := len_le h hs
theorem HeldI.len (h : HeldI ws rs H0 H L) (hn : H0.Nodup) : H0.length ≤ H.length := nodup_len hn h.sub
theorem HeldI.more (hn : H.Nodup) (hr : ∀ p ∈ H, Rch ws rs p) {p : Nat} (hp : p ∉ H) (hrp : Rch ws rs p) : (H ++ [p]).Nodup ∧ ∀ q ∈ H ++ [p], Rch ws rs q := by
  refine ⟨List.nodup_append.2 ⟨hn, by simp, fun a ha b hb => by rw [List.mem_singleton] at hb; subst hb; intro e; subst e; exact hp ha⟩, fun q hq => ?_⟩
  rcases List.mem_append.1 hq with hq | hq
  · exact hr q hq
  · rw [List.mem_singleton] at hq; subst hq; exact hrp
theorem HeldI.all (h : HeldI ws rs [] H L) (hall : ∀ o ∈ rs, kd o = 3 → pcl o ∈ H) : ∀ p, p ∈ H ↔ Rch ws rs p := fun p =>
  ⟨h.rch p, fun hr => hr.least (S := fun p => p ∈ H) hall (fun q hq o ho hk => h.closed q hq (by simp) o ho hk)⟩
theorem kd_dbl {p : Nat} (hp : 2 ≤ p) (h2 : p ≤ 1999) : kd (2 * (p : Int)) = 3 := (kd_three _).2 ⟨by omega, by omega, by omega⟩
theorem pcl_dbl (p : Nat) : pcl (2 * (p : Int)) = p := by unfold pcl; omega
end
end Go.Proofs.Ytjpppdacamhhfaa

namespace Go.Proofs.Ytjpppdacamhhfaa
open Go.RowKit
set_option linter.unusedVariables false

section
variable (Bx M n : Nat) (D : List Nat) (f : Nat → Int) (o : Int) (w : World) (hb : Blk w Bx 110 #[.map (some M)]) (hM : MapI w M n (numM D f)) (hz : pcl o ∉ D → f (pcl o) = 0)
    (hbd : -1000000000 ≤ f (pcl o) ∧ f (pcl o) ≤ 1000000000) (hk : kd o = 3)
include hb hM hz hbd hk
set_option maxRecDepth 100000 in
theorem minus1_any : Calls Try.prog 110 #[.int .i64 o, .pointer (some ⟨Bx, 0, none⟩)] w fun e w' => e = .returned (.tuple #[]) ∧ MapI w' M (n + 1) (numM (D ++ [pcl o]) (addF f (pcl o) (-1))) ∧ w.grownBy w' (some M) := by
  obtain ⟨k0, k1, k2⟩ := (kd_three o).1 hk
  have e2 : o / 2 = ((pcl o : Nat) : Int) := by unfold pcl; omega
  have e3 : o.tdiv 2 = ((pcl o : Nat) : Int) := by rw [Int.tdiv_eq_ediv_of_nonneg (by omega)]; exact e2
  have hpl : pcl o ≤ 5000 := by omega
  have hrun := hM.look (t := 110) (e := 3) Try.underlying110 (zero3 _) false ((pcl o : Nat) : Int) (by omega) (by omega)
  rw [numM_get D f (pcl o) hz] at hrun
  simp only [Bool.false_eq_true, if_false] at hrun
  have e5 : IntKind.i64.wrap ((pcl o : Nat) : Int) = ((pcl o : Nat) : Int) := IntWalk.i64_in _ (by omega)
  obtain ⟨x1, x2, x3⟩ := hb.f1
  have HM := Lib.hid hM
  have hp1 := numM_push D f (pcl o) (-1)
  have hpe : f (pcl o) + -1 = f (pcl o) - 1 := by omega
  rw [hpe] at hp1
  have HP := Lib.hid hp1
  obtain ⟨b1, b2⟩ := hbd
  clear hM hk hz hb hp1 hpe
  go_enter Try.func110, Try.ntmps110
  go_wp2_with (at_mapUpdate; refine wpList_store rfl _ _ _ 110 3 rfl Try.underlying110 HM.out rfl ((pcl o : Nat) : Int) rfl (.int .i64 (f (pcl o) - 1)) rfl (by omega) (by omega) ?_; intro w5 hm5 hgr5; rw [HP.out] at hm5; have HM5 := Lib.hid hm5; have HG5 := Lib.hid hgr5; clear hm5 hgr5)
  go_end0
  exact ⟨rfl, HM5.out, HG5.out⟩
end

/-- Where taking away has got to. -/
structure SubS (A : List Int) (w0 : World) (F Bx M : Nat) (L : List Int) (w : World) : Prop where
  blk : Blk w Bx 110 #[.map (some M)]
  map_ : ∃ n D, MapI w M n (numM D (subF A L)) ∧ ∀ q, q ∉ D → subF A L q = 0
  below : Below F w0 w
  lo : F ≤ M ∧ F ≤ Bx ∧ Bx ≠ M ∧ F ≤ w.heap.size
theorem SubS.turn {A : List Int} {w0 w w' : World} {F Bx M : Nat} {L : List Int} (h : SubS A w0 F Bx M L w) (hb : Below w.heap.size w w') : SubS A w0 F Bx M L w' := by
  obtain ⟨n, D, hm, hz⟩ := h.map_
  exact ⟨h.blk.below hb h.blk.lt, ⟨n, D, hm.below hb hm.lt, hz⟩, h.below.trans (hb.mono h.lo.2.2.2), h.lo.1, h.lo.2.1, h.lo.2.2.1, Nat.le_trans h.lo.2.2.2 hb.size⟩
theorem subF_bd (A L : List Int) (p : Nat) : -(L.length : Int) ≤ subF A L p ∧ subF A L p ≤ A.length := by
  have h1 := cntF_bd A p
  have h2 := cntF_bd L p
  unfold subF; omega
/-- The closure that takes away, as a value. -/
abbrev subV (Bx : Nat) : Value := .func (.func 110) #[] #[.pointer (some ⟨Bx, 0, none⟩)]

section
variable (ws A : List Int) (w0 w : World) (F Bx M Bf : Nat) (L : List Int) (o : Int) (hS : SubS A w0 F Bx M L w) (hBf : Blk w Bf 126 #[subV Bx]) (hL : L.length ≤ 100000000) (hA : A.length ≤ 100000000) (ho : fitsB ws o = true)
include hS hBf hL hA ho
set_option maxRecDepth 100000 in
theorem tellm_any : Calls Try.prog 151 #[.int .i64 o, .pointer (some ⟨Bf, 0, none⟩)] w (ToldEnd (SubS A w0 F Bx M) M (L ++ [o]) w) := by
  obtain ⟨x1, x2⟩ := fits_bd ho
  obtain ⟨n, D, hm, hz⟩ := hS.map_
  obtain ⟨y1, y2, y3⟩ := hBf.f1
  have HS := Lib.hid hS
  by_cases hk : kd o = 3
  · have hkb : (kd o == 3) = true := by simpa using hk
    have hbd := subF_bd A L (pcl o)
    have hcall := minus1_any Bx M n D (subF A L) o w hS.blk hm (hz (pcl o)) (by omega) hk
    have HC := Lib.hid hcall
    have HE := Lib.hid (subF_thing (A := A) (L := L) hk)
    have HZ := Lib.hid (addF_zero hz (pcl o) (-1))
    clear hS hBf ho hk hm hz hcall hbd
    go_enter Try.func151, Try.ntmps151
    go_wp2_with (first
      | (go_at_call 31; refine (kind_any _ _ (by omega) (by omega)).mono ?_; rintro e w' ⟨rfl, rfl⟩)
      | (go_at_call 110; refine HC.out.mono ?_; rintro e w5 ⟨rfl, hm5, hg5⟩; have HM5 := Lib.hid hm5; have HG5 := Lib.hid hg5; clear hm5 hg5))
    go_end0
    have hlo := HS.out.lo
    refine .mk ⟨HS.out.blk.grown HG5.out (fun e => ?_), ⟨_, _, by rw [HE.out]; exact HM5.out, by rw [HE.out]; exact HZ.out⟩, HS.out.below.grown HG5.out hlo.2.2.2 (fun k e => ?_), hlo.1, hlo.2.1, hlo.2.2.1, Nat.le_trans hlo.2.2.2 HG5.out.size⟩ ((Turned.refl _ _).grown HG5.out (fun k e => .inl (by cases e; rfl)))
    · exact hlo.2.2.1 (by cases e; rfl)
    · cases e; exact hlo.1
  · have hkb : (kd o == 3) = false := by simpa using hk
    have HE := Lib.hid (subF_other (A := A) (L := L) hk)
    clear hS hBf ho hk hm hz
    go_enter Try.func151, Try.ntmps151
    go_wp2_with (go_at_call 31; refine (kind_any _ _ (by omega) (by omega)).mono ?_; rintro e w' ⟨rfl, rfl⟩)
    go_end0
    refine .mk ?_ (Turned.refl _ _)
    have h := HS.out
    obtain ⟨n, D, hm, hz⟩ := h.map_
    exact ⟨h.blk, ⟨n, D, by rw [HE.out]; exact hm, by rw [HE.out]; exact hz⟩, h.below, h.lo⟩
end
end Go.Proofs.Ytjpppdacamhhfaa

namespace Go.Proofs.Ytjpppdacamhhfaa
open Go.RowKit
set_option linter.unusedVariables false

/-- The closure that holds, as a value. -/
abbrev holdV (Bt Bv Bh : Nat) : Value := .func (.func 111) #[] #[.pointer (some ⟨Bt, 0, none⟩), .pointer (some ⟨Bv, 0, none⟩), .pointer (some ⟨Bh, 0, none⟩)]
/-- Who is held, in memory. -/
structure HoldS (w0 : World) (F Bt Bv Bh M g : Nat) (H : List Nat) (w : World) : Prop where
  bt : Blk w Bt 127 #[.map (some M)]
  bv : Blk w Bv 104 #[.pointer (some ⟨g, 0, none⟩)]
  bh : Blk w Bh 126 #[holdV Bt Bv Bh]
  map_ : ∃ n, MapI w M n (seenM H)
  below : Below F w0 w
  lo : F ≤ M ∧ F ≤ w.heap.size ∧ Bt ≠ M ∧ Bv ≠ M ∧ Bh ≠ M
section
variable {w0 w w' : World} {F Bt Bv Bh M g : Nat} {H : List Nat}
theorem HoldS.turn (h : HoldS w0 F Bt Bv Bh M g H w) (hb : Below w.heap.size w w') : HoldS w0 F Bt Bv Bh M g H w' := by
  obtain ⟨n, hm⟩ := h.map_
  exact ⟨h.bt.below hb h.bt.lt, h.bv.below hb h.bv.lt, h.bh.below hb h.bh.lt, ⟨n, hm.below hb hm.lt⟩, h.below.trans (hb.mono h.lo.2.1), h.lo.1, Nat.le_trans h.lo.2.1 hb.size, h.lo.2.2⟩
theorem HoldS.put {n : Nat} {p : Nat} (h : HoldS w0 F Bt Bv Bh M g H w) (hg : w.grownBy w' (some M)) (hm : MapI w' M n (seenM (H ++ [p]))) : HoldS w0 F Bt Bv Bh M g (H ++ [p]) w' :=
  ⟨h.bt.grown hg (fun e => h.lo.2.2.1 (by cases e; rfl)), h.bv.grown hg (fun e => h.lo.2.2.2.1 (by cases e; rfl)), h.bh.grown hg (fun e => h.lo.2.2.2.2 (by cases e; rfl)), ⟨n, hm⟩,
    h.below.grown hg h.lo.2.1 (fun k e => by cases e; exact h.lo.1), h.lo.1, Nat.le_trans h.lo.2.1 hg.size, h.lo.2.2⟩
end
/-- What a call of it does. -/
def HoldEnd (ws rs : List Int) (w0 : World) (F Bt Bv Bh M g : Nat) (H : List Nat) (o : Int) (w : World) (e : Ending) (w' : World) : Prop :=
  e = .returned (.tuple #[]) ∧ (∃ H', HoldS w0 F Bt Bv Bh M g H' w' ∧ HeldI ws rs H H' [o]) ∧ Turned w w' (fun k => k = M)
def HoldP (ws rs : List Int) (w0 : World) (F Bt Bv Bh M g : Nat) (m : Nat) : Prop :=
  ∀ (H : List Nat) (o : Int) (w : World), (places ws).length - H.length ≤ m → HoldS w0 F Bt Bv Bh M g H w → H.Nodup → (∀ p ∈ H, Rch ws rs p) → kd o = 3 → Rch ws rs (pcl o) →
    Calls Try.prog 111 #[.int .i64 o, .pointer (some ⟨Bt, 0, none⟩), .pointer (some ⟨Bv, 0, none⟩), .pointer (some ⟨Bh, 0, none⟩)] w (HoldEnd ws rs w0 F Bt Bv Bh M g H o w)

/-- While it goes on. -/
def HoldG (ws rs : List Int) (w0 : World) (F Bt Bv Bh M g : Nat) (H0 : List Nat) (L : List Int) (w : World) : Prop := ∃ H, HoldS w0 F Bt Bv Bh M g H w ∧ HeldI ws rs H0 H L

section
variable (ws rs : List Int) (w0 w : World) (F Bt Bv Bh M g Bf : Nat) (H0 : List Nat) (L : List Int) (o : Int) (m : Nat) (hP : HoldP ws rs w0 F Bt Bv Bh M g m) (hn : H0.Nodup) (hm : (places ws).length - H0.length ≤ m)
    (hS : HoldG ws rs w0 F Bt Bv Bh M g H0 L w) (hBf : Blk w Bf 126 #[holdV Bt Bv Bh]) (hr : kd o = 3 → Rch ws rs (pcl o)) (ho : fitsB ws o = true)
include hP hn hm hS hBf hr ho
set_option maxRecDepth 100000 in
theorem tellh_any : Calls Try.prog 151 #[.int .i64 o, .pointer (some ⟨Bf, 0, none⟩)] w (ToldEnd (HoldG ws rs w0 F Bt Bv Bh M g H0) M (L ++ [o]) w) := by
  obtain ⟨x1, x2⟩ := fits_bd ho
  obtain ⟨y1, y2, y3⟩ := hBf.f1
  obtain ⟨H, hs, hi⟩ := hS
  by_cases hk : kd o = 3
  · have hkb : (kd o == 3) = true := by simpa using hk
    have hl := hi.len hn
    have HC := Lib.hid (hP H o w (by omega) hs hi.nodup hi.rch hk (hr hk))
    have HI := Lib.hid hi
    clear hP hBf ho hk hr hs hi
    go_enter Try.func151, Try.ntmps151
    go_wp2_with (first
      | (go_at_call 31; refine (kind_any _ _ (by omega) (by omega)).mono ?_; rintro e w' ⟨rfl, rfl⟩)
      | (go_at_call 111; refine HC.out.mono ?_; rintro e w5 ⟨rfl, hm5, hg5⟩; have HM5 := Lib.hid hm5; have HG5 := Lib.hid hg5; clear hm5 hg5))
    go_end0
    obtain ⟨H', h1, h2⟩ := HM5.out
    exact .mk ⟨H', h1, HI.out.step h2⟩ HG5.out
  · have hkb : (kd o == 3) = false := by simpa using hk
    have HH : Hid (HoldG ws rs w0 F Bt Bv Bh M g H0 (L ++ [o]) w) := ⟨H, hs, hi.pass (fun e => absurd e hk)⟩
    clear hP hBf ho hk hr hs hi
    go_enter Try.func151, Try.ntmps151
    go_wp2_with (go_at_call 31; refine (kind_any _ _ (by omega) (by omega)).mono ?_; rintro e w' ⟨rfl, rfl⟩)
    go_end0
    exact .mk HH.out (Turned.refl _ _)
end

set_option maxRecDepth 100000 in
set_option maxHeartbeats 4000000 in
theorem hold_any (ws rs : List Int) (g b o' c : Nat) (w0 : World) (F Bt Bv Bh M : Nat) (hok : OkH ws) (hw : I64 ws) (hfit : ∀ o ∈ rs, fitsB ws o = true)
    (hvw : ∀ W, Below F w0 W → ViewAt W g ws) (hrw : ∀ W, Below F w0 W → Row W b o' ws ∧ b < W.heap.size) (hcw : ∀ W, Below F w0 W → W.cell? ⟨g, 0, none⟩ = some (.slice (some ⟨b, o', none⟩) ws.length c)) (hcc : ws.length ≤ c) (m : Nat) :
    HoldP ws rs w0 F Bt Bv Bh M g m := by
  induction m using Nat.strongRecOn with
  | ind m ih =>
    intro H o w hm hS hnd hrH hk hro
    obtain ⟨k0, k1, k2⟩ := (kd_three o).1 hk
    have e2 : o / 2 = ((pcl o : Nat) : Int) := by unfold pcl; omega
    have e3 : o.tdiv 2 = ((pcl o : Nat) : Int) := by rw [Int.tdiv_eq_ediv_of_nonneg (by omega)]; exact e2
    have hpl := hro.pl hok hfit
    have hp5 : pcl o ≤ 5000 := by omega
    obtain ⟨n, hM⟩ := hS.map_
    have hrun := hM.look (t := 127) (e := 128) Try.underlying127 (zeroU _) true ((pcl o : Nat) : Int) (by omega) (by omega)
    rw [seenM_at, seenM_get] at hrun
    simp only [if_true] at hrun
    have e5 : IntKind.i64.wrap ((pcl o : Nat) : Int) = ((pcl o : Nat) : Int) := IntWalk.i64_in _ (by omega)
    have hz := zeroU
    obtain ⟨x1, x2, x3⟩ := hS.bt.f1
    by_cases hp : pcl o ∈ H
    · have hd : decide (pcl o ∈ H) = true := by simpa using hp
      rw [hd] at hrun
      have HEI : Hid (HeldI ws rs H H [o]) := (HeldI.start hnd hrH).pass (L := []) (fun _ => hp)
      have HS := Lib.hid hS
      clear hS hM hp hpl hro hrH hnd hd ih hk hok hw hfit hvw hrw hcw
      go_enter Try.func111, Try.ntmps111
      go_wp2_with fail
      go_end0
      exact ⟨rfl, ⟨H, HS.out.turn ((Below.refl _ _).alloc (Nat.le_refl _) _), HEI.out⟩, (Turned.refl _ _).alloc _⟩
    · have hd : decide (pcl o ∈ H) = false := by simpa using hp
      rw [hd] at hrun
      have hlen : (H ++ [pcl o]).length ≤ (places ws).length := nodup_len (HeldI.more hnd hrH hp hro).1 (fun q hq => ((HeldI.more hnd hrH hp hro).2 q hq).pl hok hfit)
      rw [List.length_append, List.length_singleton] at hlen
      obtain ⟨hn1, hr1⟩ := HeldI.more hnd hrH hp hro
      have HP := Lib.hid (ih (m - 1) (by omega))
      have hle1 : (places ws).length - (H ++ [pcl o]).length ≤ m - 1 := by rw [List.length_append, List.length_singleton]; omega
      have HLE1 := Lib.hid hle1
      have HN1 := Lib.hid hn1; have HR1 := Lib.hid hr1
      have HS := Lib.hid hS; have HPL := Lib.hid hpl; have HRO := Lib.hid hro
      have HPU := Lib.hid (seenM_push H (pcl o))
      have hM1 := hM.alloc (.cells #[] 128)
      have HM1 := Lib.hid hM1
      have HOK := Lib.hid hok; have HW := Lib.hid hw
      have HVW := Lib.hid hvw; have HRW := Lib.hid hrw; have HCW := Lib.hid hcw
      have HS1 := Lib.hid (hS.turn ((Below.refl _ _).alloc (Nat.le_refl _) (.cells #[] 128)))
      obtain ⟨u1, u2, u3⟩ := hS.bv.f1
      obtain ⟨v1, v2, v3⟩ := hS.bh.f1
      clear hS hM hp hpl hro hrH hnd hd ih hk hok hw hfit hvw hrw hcw hlen hn1 hr1 hM1 hle1 hm
      go_enter Try.func111, Try.ntmps111
      go_wp2_with (at_mapUpdate;  refine wpList_store rfl _ _ _ 127 128 rfl Try.underlying127 HM1.out rfl ((pcl o : Nat) : Int) rfl (.agg #[]) rfl (by omega) (by omega) ?_; intro w5 hm5 hgr5; rw [HPU.out] at hm5; have HS5 := Lib.hid (HS1.out.put hgr5 hm5); have HT5 := Lib.hid (((Turned.refl w (fun k => k = M)).alloc (.cells #[] 128)).grown hgr5 (fun k e => .inl (by cases e; rfl))); have HML := Lib.hid hm5.lt; clear hm5 hgr5; obtain ⟨u4, u5, u6⟩ := HS5.out.bv.f1; obtain ⟨v4, v5, v6⟩ := HS5.out.bh.f1)
      refine (given_gen ws g b o' c w0 w5 F M 111 #[.pointer (some ⟨Bt, 0, none⟩), .pointer (some ⟨Bv, 0, none⟩), .pointer (some ⟨Bh, 0, none⟩)] (HoldG ws rs w0 F Bt Bv Bh M g (H ++ [pcl o])) [] (pcl o) ⟨_, HS5.out, HeldI.start HN1.out HR1.out⟩ (by simp) HOK.out HW.out HPL.out HVW.out HRW.out HCW.out hcc HML.out
        (fun L W h => by obtain ⟨H', h1, _⟩ := h; exact h1.below) (fun L W W' h hb => by obtain ⟨H', h1, h2⟩ := h; exact ⟨H', h1.turn hb, h2⟩)
        (fun Bf L x W h hB _ hx hfx _ => tellh_any ws rs w0 W F Bt Bv Bh M g Bf (H ++ [pcl o]) L x (m - 1) HP.out HN1.out HLE1.out h hB (fun hk => .step (pcl o) x HRO.out hx hk) hfx)).mono ?_
      rintro e w6 ⟨rfl, hg6, ht6⟩
      obtain ⟨H', h1, h2⟩ := hg6
      have HF : Hid (HoldEnd ws rs w0 F Bt Bv Bh M g H o w (.returned (.tuple #[])) w6) := ⟨rfl, ⟨H', h1, HeldI.deep h2 rfl⟩, HT5.out.trans ht6 (fun k _ h => h)⟩
      clear h1 h2 ht6
      go_wp2_with fail
      go_end0
      exact HF.out
end Go.Proofs.Ytjpppdacamhhfaa

namespace Go.Proofs.Ytjpppdacamhhfaa
open Go.RowKit Go.Maps Go.MapKept Go.ChangeMaps
set_option linter.unusedVariables false

/-- Block r goes over the map in block M, which answers as f says; the keys in done have come already. -/
def RangI (w : World) (M r : Nat) (f : Int → Option Value) (done : List Int) : Prop :=
  ∃ es clock since seen c0, w.heap[M]? = some (.map es clock) ∧ w.heap[r]? = some (.mapIter (some M) since seen c0) ∧ Stamped es clock ∧
    (∀ x ∈ es.toList, ∃ k : Int, (Lit.int .i64 k).wf = true ∧ x.key = .int .i64 k ∧ f k = some x.val) ∧ (∀ k v, f k = some v → ∃ x ∈ es.toList, x.key = .int .i64 k) ∧
    (∀ x ∈ es.toList, x.born < since) ∧ since ≤ c0 ∧ since ≤ clock ∧ (∀ x ∈ es.toList, seen.contains x.born = true → ∃ k ∈ done, x.key = .int .i64 k) ∧ M ≠ r

section
variable {w : World} {M r n : Nat} {f : Int → Option Value} {done : List Int}
theorem RangI.lt (h : RangI w M r f done) : M < w.heap.size ∧ r < w.heap.size := by
  obtain ⟨es, clock, since, seen, c0, hb, hr, _⟩ := h
  exact ⟨(Array.getElem?_eq_some_iff.1 hb).1, (Array.getElem?_eq_some_iff.1 hr).1⟩
theorem RangI.kept {w' : World} (h : RangI w M r f done) (h1 : w'.heap[M]? = w.heap[M]?) (h2 : w'.heap[r]? = w.heap[r]?) : RangI w' M r f done ∧ w'.rangeLeft M r = w.rangeLeft M r := by
  obtain ⟨es, clock, since, seen, c0, hb, hr, rest⟩ := h
  refine ⟨⟨es, clock, since, seen, c0, h1.trans hb, h2.trans hr, rest⟩, ?_⟩
  simp only [World.rangeLeft, h1, h2]
theorem RangI.below {w' : World} {B : Nat} (h : RangI w M r f done) (hb : Below B w w') (h1 : M < B) (h2 : r < B) : RangI w' M r f done := (h.kept (hb.block _ h1) (hb.block _ h2)).1
theorem MapI.rangeI (h : MapI w M n f) {t e : TypeId} (ht : Try.prog.underlying t = some (.map 3 e)) :
    ∃ w', (Instr.range t (.map (some M))).run Try.prog w = .ok (.pointer (some ⟨w.heap.size, 0, none⟩)) w' ∧ RangI w' M w.heap.size f [] ∧ Below w.heap.size w w' ∧ w'.heap.size = w.heap.size + 1 := by
  have hlt := h.lt
  obtain ⟨es, clock, hb, -, hst, hk, hf⟩ := h
  refine ⟨_, run_range_map w t 3 e M es clock ht hb, ⟨es, clock, clock, #[], clock, ?_, heap_alloc_new w _, hst, hk, hf, hst.1, Nat.le_refl _, Nat.le_refl _, ?_, by omega⟩, (Below.refl _ _).alloc (Nat.le_refl _) _, by simp⟩
  · exact (Below.heap_alloc w _ M hlt).trans hb
  · intro x _ hx; simp at hx
theorem RangI.next (h : RangI w M r f done) (ty : TypeId) :
    ((∀ k v, f k = some v → k ∈ done) ∧ (Instr.next (.pointer (some ⟨r, 0, none⟩)) false ty).run Try.prog w = .ok (.tuple #[.bool false]) w) ∨
    ∃ k v w', f k = some v ∧ (Lit.int .i64 k).wf = true ∧ (Instr.next (.pointer (some ⟨r, 0, none⟩)) false ty).run Try.prog w = .ok (.tuple #[.bool true, .int .i64 k, v]) w' ∧
      RangI w' M r f (done ++ [k]) ∧ w'.rangeLeft M r < w.rangeLeft M r ∧ w.grownBy w' (some r) ∧ w'.heap.size = w.heap.size ∧ (Instr.entry (.pointer (some ⟨r, 0, none⟩))).run Try.prog w' = .ok (.tuple #[.int .i64 k, v]) w' := by
  obtain ⟨es, clock, since, seen, c0, hb, hr, hst, hk, hf, hold, hsc, hsk, hdn, hne⟩ := h
  rcases run_next_at (P := Try.prog) w ty r M since c0 seen es clock hr hb hold hsc with ⟨h0, hrun⟩ | ⟨e, he, w1, hal, hrun⟩
  · refine .inl ⟨fun k v hkv => ?_, hrun⟩
    obtain ⟨x, hx, hxk⟩ := hf k v hkv
    obtain ⟨k', hk', e'⟩ := hdn x hx (all_seen es seen h0 x hx)
    rw [hxk] at e'
    cases e'
    exact hk'
  · obtain ⟨hem, hes⟩ := mem_left he
    obtain ⟨k, hwf, hke, hfk⟩ := hk e hem
    have hr1 : w1.heap[r]? = some (.mapIter (some M) since seen c0) := by rcases hal with rfl | rfl <;> exact hr
    have hb1 : w1.heap[M]? = some (.map es clock) := by rcases hal with rfl | rfl <;> exact hb
    have hset := heap_set (o' := .mapIter (some M) since (seen.push e.born) clock) hr1
    have hb' : (setBlock w1 r (.mapIter (some M) since (seen.push e.born) clock)).heap[M]? = some (.map es clock) := (hset.2 M hne).trans hb1
    have hr' : (setBlock w1 r (.mapIter (some M) since (seen.push e.born) clock)).heap[r]? = some (.mapIter (some M) since (seen.push e.born) clock) := hset.1
    have hst2 := (stamped_iff es clock).1 hst
    refine .inr ⟨k, e.val, _, hfk, hwf, by rw [← hke]; exact hrun, ⟨es, clock, since, seen.push e.born, clock, hb', hr', hst, hk, hf, hold, hsk, hsk, fun x hx hs => ?_, hne⟩, ?_, ?_, ?_, ?_⟩
    · rw [contains_push] at hs
      by_cases hbe : x.born = e.born
      · obtain rfl := born_inj hst2.2.1 hx hem hbe
        exact ⟨k, by simp, hke⟩
      · have hb2 : (x.born == e.born) = false := by simp [hbe]
        rw [hb2, Bool.or_false] at hs
        obtain ⟨k', h1, h2⟩ := hdn x hx hs
        exact ⟨k', List.mem_append_left _ h1, h2⟩
    · simp only [World.rangeLeft, hb', hr', hb, hr]
      exact left_shrinks es seen e he
    · rcases hal with rfl | rfl <;> exact ⟨rfl, rfl, rfl, by simp [setBlock], fun i _ hi => hset.2 i (fun e1 => hi (by rw [e1]))⟩
    · rcases hal with rfl | rfl <;> simp [setBlock]
    · rw [← hke]; exact run_entry_at _ r M since seen es clock e hr' hb' hem hst2.2.1
end
section
variable {w : World} {ops : Array Oper} {rest : List Oper} {o : Oper} {a : Act} {Q : Exit → Act → World → Prop} {M r n : Nat} {f : Int → Option Value} {done : List Int}
theorem wpList_rangeI (hg : o.guard = none) (m : Operand) (t e : TypeId) (hop : o.op = Op.range t m) (ht : Try.prog.underlying t = some (.map 3 e)) (hm : a.eval m = .map (some M)) (h : MapI w M n f)
    (hK : ∀ w', RangI w' M w.heap.size f [] → Below w.heap.size w w' → w'.heap.size = w.heap.size + 1 → wpList Try.prog ops Q rest (a.put o.dst (.pointer (some ⟨w.heap.size, 0, none⟩))) w') :
    wpList Try.prog ops Q (o :: rest) a w := by
  refine wpList_plain hg fun K' hK' => ?_
  obtain ⟨w', hrun, r1, r2, r3⟩ := h.rangeI ht
  unfold Oper.wp
  simp [execOp, hop, hm, hrun, Result.andThen]
  exact hK' _ _ (hK w' r1 r2 r3)
theorem wpList_nextI (hg : o.guard = none) (it : Operand) (hop : o.op = Op.next it false) (hit : a.eval it = .pointer (some ⟨r, 0, none⟩)) (h : RangI w M r f done)
    (hDone : (∀ k v, f k = some v → k ∈ done) → wpList Try.prog ops Q rest (a.put o.dst (.tuple #[.bool false])) w)
    (hMore : ∀ k v w', f k = some v → (Lit.int .i64 k).wf = true → RangI w' M r f (done ++ [k]) → w'.rangeLeft M r < w.rangeLeft M r → w.grownBy w' (some r) → w'.heap.size = w.heap.size →
      (Instr.entry (.pointer (some ⟨r, 0, none⟩))).run Try.prog w' = .ok (.tuple #[.int .i64 k, v]) w' → wpList Try.prog ops Q rest (a.put o.dst (.tuple #[.bool true, .int .i64 k, v])) w') :
    wpList Try.prog ops Q (o :: rest) a w := by
  refine wpList_plain hg fun K' hK' => ?_
  unfold Oper.wp
  rcases h.next o.type with ⟨h0, hrun⟩ | ⟨k, v, w', h1, h2, hrun, h3, h4, h5, h6, h7⟩
  · simp [execOp, hop, hit, hrun, Result.andThen]
    exact hK' _ _ (hDone h0)
  · simp [execOp, hop, hit, hrun, Result.andThen]
    exact hK' _ _ (hMore k v w' h1 h2 h3 h4 h5 h6 h7)
end
end Go.Proofs.Ytjpppdacamhhfaa

namespace Go.Proofs.Ytjpppdacamhhfaa
open Go.RowKit
set_option linter.unusedVariables false

def cntL (ws rs : List Int) : List Int := (places ws).map (cntF (allL ws rs))
def CountsTold (ws rs : List Int) (w : World) (e : Ending) (w' : World) : Prop :=
  ∃ xs, (((rootsF ws rs).1 ≠ 0 ∧ xs = []) ∨ ((rootsF ws rs).1 = 0 ∧ xs = cntL ws rs)) ∧ Below w.heap.size w w' ∧ ∃ A c, e = .returned (.tuple #[.slice A xs.length c, fltV (rootsF ws rs).1 (rootsF ws rs).2]) ∧ Own w' w.heap.size (.slice A xs.length c) xs

set_option maxRecDepth 100000 in
set_option maxHeartbeats 2000000 in
theorem countCounts_any (ws rs : List Int) (A B : Option Addr) (c d : Nat) (w : World) (hA : Ints w A ws) (hcap : ws.length ≤ c) (hw : I64 ws) (hl : ws.length ≤ 9223372036854775807)
    (hB : Ints w B rs) (hr : I64 rs) (hrl : rs.length ≤ 1000000) : Calls Try.prog 59 #[.agg #[.slice A ws.length c], .slice B rs.length d] w (CountsTold ws rs w) := by
  have hx0 : Below w.heap.size w ((w.alloc (.cells #[.slice A ws.length c] 33)).alloc (.cells #[.int .i64 0, .int .i64 0] 36)) := ((Below.refl _ _).alloc (Nat.le_refl _) _).alloc (by simp) _
  have hh0 : Blk ((w.alloc (.cells #[.slice A ws.length c] 33)).alloc (.cells #[.int .i64 0, .int .i64 0] 36)) w.heap.size 33 #[.slice A ws.length c] := (Blk.new _ _ _).alloc _
  have hr2 : Blk ((w.alloc (.cells #[.slice A ws.length c] 33)).alloc (.cells #[.int .i64 0, .int .i64 0] 36)) (w.heap.size + 1) 36 #[.int .i64 0, .int .i64 0] := by
    have := Blk.new (w.alloc (.cells #[.slice A ws.length c] 33)) 36 #[.int .i64 0, .int .i64 0]
    simpa using this
  have HX0 := Lib.hid hx0; have HH0 := Lib.hid hh0; have HR2 := Lib.hid hr2
  have HA := Lib.hid (hA.below hx0); have HB := Lib.hid (hB.below hx0)
  have HW := Lib.hid hw; have HRW := Lib.hid hr
  clear hx0 hh0 hr2 hA hB hw hr
  go_enter Try.func59, Try.ntmps59
  go_wp2_with fail
  generalize hw1 : ((w.alloc (.cells #[.slice A ws.length c] 33)).alloc (.cells #[.int .i64 0, .int .i64 0] 36)) = w1 at *
  clear hw1
  refine (rsee_any ws rs A B c d w1 HA.out hcap HW.out hl HB.out HRW.out (by omega)).mono ?_
  rintro e w2 ⟨hb2, h⟩
  have HL2 := Lib.hid (HX0.out.trans (hb2.mono HX0.out.size))
  have HR22 := Lib.hid (HR2.out.below hb2 HR2.out.lt)
  have HB2 := Lib.hid (HB.out.below hb2)
  have hRlt : w.heap.size + 1 < w2.heap.size := HR22.out.lt
  clear hb2
  obtain ⟨z1, z2, z3, z4, z5⟩ := HR22.out.f2
  rcases h with ⟨h0, rfl⟩ | ⟨h0, g, rfl, hv⟩
  · have h1 : ((rootsF ws rs).1 != 0) = true := by simpa using h0
    have HN := Lib.hid h0
    clear h0
    unfold seeV fltV
    go_wp2_with fail
    go_region
    all_goals (try go_wp2)
    all_goals
      refine bodyPost_ret (v := .tuple #[.slice none 0 0, fltV (rootsF ws rs).1 (rootsF ws rs).2]) (by simp [results, Try.results59, go_sem, fltV, z1, z2, z5]) rfl ⟨[], .inl ⟨HN.out, rfl⟩, ?_, none, 0, rfl, Own.nil _ _⟩
      repeat (first | exact HL2.out | refine Below.drew ?_ | refine Below.setCell ?_ (by dsimp only; omega) _ | refine Below.alloc ?_ (by simp; omega) _)
  · obtain ⟨hokh, -, -, hfit, hz⟩ := rootsF_zero h0
    have HV := Lib.hid hv; have HOK := Lib.hid hokh; have HFIT := Lib.hid hfit; have HZ := Lib.hid hz
    have hq2 : ws.length ≤ 2000 := hokh.most
    clear hv hokh hz h0 hfit
    have hx3 : Below w2.heap.size w2 (w2.alloc (.cells #[.int .i64 0, .int .i64 0] 36)) := (Below.refl _ _).alloc (Nat.le_refl _) _
    have HF3 := Lib.hid (Blk.new w2 36 #[.int .i64 0, .int .i64 0])
    have HL3 := Lib.hid (HL2.out.trans (hx3.mono HL2.out.size))
    have HR23 := Lib.hid (HR22.out.below hx3 HR22.out.lt)
    have HB3 := Lib.hid (HB2.out.below hx3); have HV3 := Lib.hid (HV.out.below hx3)
    have hs3 : w2.heap.size < (w2.alloc (.cells #[.int .i64 0, .int .i64 0] 36)).heap.size := by simp
    clear hx3 z1 z2 z3 z4 z5
    unfold fltV
    go_wp2_with fail
    generalize hw3 : (w2.alloc (.cells #[.int .i64 0, .int .i64 0] 36)) = w3 at *
    clear hw3
    refine (counts_any ws rs g B d w3 HV3.out HOK.out HW.out HB3.out hrl HFIT.out).mono ?_
    rintro e w4 ⟨M, n, D, rfl, hm, hz, hM, hb4⟩
    have hv4 := HV3.out.below hb4
    obtain ⟨bq, oq, cq, Mq, A', oc, -, -, v2, hg, -, -, -, hord⟩ := hv4.cells
    have HM := Lib.hid hm; have HZ4 := Lib.hid hz; have HORD := Lib.hid hord
    have HF4 := Lib.hid (HF3.out.below hb4 hs3); have HR4 := Lib.hid (HR23.out.below hb4 HR23.out.lt)
    have HL4 := Lib.hid (HL3.out.trans (hb4.mono HL3.out.size))
    have hMl := hm.lt
    have hlp : (places ws).length ≤ ws.length := places_len ws
    have h34 : w3.heap.size ≤ w4.heap.size := hb4.size
    generalize hfun : cntF (allL ws rs) = f at *
    have hbdf : ∀ p, 0 ≤ f p := fun p => by rw [← hfun]; exact (cntF_bd _ p).1
    have HBDF := Lib.hid hbdf
    have HFUN := Lib.hid hfun
    clear hm hz hb4 hv4 hord hfun hbdf HV HV3 HB2 HB3
    go_wp2_with fail
    clear v2
    go_loopw [9, 30] (fun v i wr => ∃ j : Nat, i = .int .i64 j ∧ j ≤ (places ws).length ∧ Below w4.heap.size w4 wr ∧ Own wr w4.heap.size v (((places ws).take j).map f)) (fun _ i _ => (places ws).length - (intOf i).toNat)
    case atStart => exact ⟨0, rfl, Nat.zero_le _, Below.refl _ _, Own.nil _ _⟩
    case round =>
      obtain ⟨j, rfl, hj, hb5, hown5⟩ := hrel
      have HB5 := Lib.hid hb5; have HO5 := Lib.hid hown5
      have hws : w4.heap.size ≤ wr.heap.size := hb5.size
      clear hb5 hown5
      by_cases hjl : j < (places ws).length
      · obtain ⟨b1, o1, hA, -, r1⟩ := (HORD.out.below HB5.out) (by rw [ups_len]; omega)
        subst hA
        have e1 := r1 j (by rw [ups_len]; exact hjl)
        rw [ups_nth hjl, getD_el hjl] at e1
        have hpb := places_mem (List.getElem_mem hjl)
        have hTK : ((places ws).take (j + 1)).map f = ((places ws).take j).map f ++ [f (places ws)[j]] := by rw [List.take_succ_eq_append_getElem hjl, List.map_append, List.map_singleton]
        have HTK := Lib.hid hTK
        clear r1 hTK
        generalize (places ws)[j] = p at *
        obtain ⟨p2, pl, -⟩ := hpb
        have hrun := (HM.out.below HB5.out hMl).look (t := 110) (e := 3) Try.underlying110 (zero3 _) false (p : Int) (by omega) (by omega)
        rw [numM_get D f p (HZ4.out p)] at hrun
        simp only [Bool.false_eq_true, if_false] at hrun
        have hly : (((places ws).take j).map f).length ≤ 1000000000 := by simp; omega
        have hz6 : w4.heap.size ≤ (wr.alloc (.cells #[.int .i64 (f p)] 3)).heap.size := by rw [World.size_alloc]; omega
        go_wp2_with (at_builtin; refine wpList_pushN rfl _ _ rfl w4.heap.size _ (((places ws).take j).map f) rfl (HO5.out.alloc _) wr.heap.size 1 (f p) rfl (cell_new wr _ _ _ 0) hly hz6 ?_; intro g6 n6 cap6 w6 hown6 hg6 hgr6; have HO6 := Lib.hid hown6; have HB6 := Lib.hid ((HB5.out.alloc hws _).grown hgr6 hz6 (fun q hq => (HO5.out.lt q hq).1)); clear hown6 hgr6)
        go_roundw
        case rel => exact ⟨j + 1, by go_num, by omega, HB6.out, by rw [HTK.out]; exact HO6.out⟩
        case measure => simp [intOf]; omega
      · obtain rfl : j = (places ws).length := by omega
        have hO5 := HO5.out
        rw [List.take_length] at hO5
        obtain ⟨A5, c5, rfl, -⟩ := hO5.form2
        obtain ⟨z1, z2, z3, z4, z5⟩ := (HR4.out.below HB5.out HR4.out.lt).f2
        obtain ⟨r1, r2, r3, r4, r5⟩ := (HF4.out.below HB5.out HF4.out.lt).f2
        have HO6 := Lib.hid hO5
        have HL5 := Lib.hid (HL4.out.trans (HB5.out.mono (by have := HL4.out.size; omega)))
        have hl1 : w.heap.size + 1 < w4.heap.size := by omega
        clear hO5
        go_wp2_with fail
        go_region
        all_goals (try go_wp2)
        all_goals
          refine bodyPost_ret (v := .tuple #[.slice A5 ((places ws).map f).length c5, fltV 0 0]) (by simp [results, Try.results59, go_sem, fltV, z1, z2]) rfl ⟨(places ws).map f, .inr ⟨by rw [HZ.out], by unfold cntL; rw [HFUN.out]⟩, ?_, A5, c5, by rw [HZ.out], ?_⟩
          · repeat (first | exact HL5.out | refine Below.drew ?_ | refine Below.setCell ?_ (by dsimp only; omega) _ | refine Below.alloc ?_ (by simp; omega) _)
          · have hoo := HO6.out.mono (show w.heap.size ≤ w4.heap.size by omega)
            repeat (first | exact hoo | refine Own.setCell ?_ _ (fun e => by have := (HO6.out.lt _ e).1; dsimp only at this; omega) _ | refine Own.alloc ?_ _ | refine Own.drewN ?_ 1)
end Go.Proofs.Ytjpppdacamhhfaa

namespace Go.Proofs.Ytjpppdacamhhfaa
open Go.RowKit
set_option linter.unusedVariables false

def cntRow (L : List Int) (N : Nat) : List Int := (List.range N).map (cntF L)
theorem cntRow_len (L : List Int) (N : Nat) : (cntRow L N).length = N := by simp [cntRow]
theorem cntRow_nth {L : List Int} {N p : Nat} (hp : p < N) : nth (cntRow L N) p = cntF L p := by
  unfold cntRow; simp [nth, hp]
section
variable (ws : List Int) (F G cN N : Nat) (L : List Int) (o : Int) (w : World) (hO : Own w F (.slice (some ⟨G, 0, none⟩) N cN) (cntRow L N)) (ho : fitsB ws o = true) (hN : ws.length ≤ N) (hL : L.length ≤ 100000000)
include hO ho hN hL
set_option maxRecDepth 100000 in
theorem one_more_any : Calls Try.prog 112 #[.slice (some ⟨G, 0, none⟩) N cN, .int .i64 o] w fun e w' => e = .returned (.tuple #[]) ∧ Own w' F (.slice (some ⟨G, 0, none⟩) N cN) (cntRow (L ++ [o]) N) ∧ Turned w w' (fun k => k = G) := by
  obtain ⟨x1, x2⟩ := fits_bd ho
  by_cases hk : kd o = 3
  · obtain ⟨k0, k1, k2⟩ := (kd_three o).1 hk
    have hpl := (places_mem (fits_pl ho hk)).2.1
    have e1 : (o / 2).toNat = pcl o := rfl
    have e2 : o / 2 = ((pcl o : Nat) : Int) := by unfold pcl; omega
    have hkb : (kd o == 3) = true := by simpa using hk
    have hc := hO.cell (pcl o) (by rw [cntRow_len]; omega)
    rw [cntRow_nth (by omega)] at hc
    have hfz := hO.frz (pcl o)
    have hbd := cntF_bd L (pcl o)
    have hput := hO.put (pcl o) (cntF L (pcl o) + 1)
    have hrow : (cntRow L N).set (pcl o) (cntF L (pcl o) + 1) = cntRow (L ++ [o]) N := by
      apply list_ext_nth
      · rw [List.length_set, cntRow_len, cntRow_len]
      · intro j hj
        rw [List.length_set, cntRow_len] at hj
        rw [cntRow_nth hj, cntF_thing hk]
        unfold addF
        by_cases e : j = pcl o
        · subst e; rw [nth_set_eq (by rw [cntRow_len]; exact hj), if_pos rfl]
        · rw [nth_set_ne (fun e' => e e'.symm), if_neg e, cntRow_nth hj]
    rw [hrow] at hput
    have HP := Lib.hid hput
    obtain ⟨b1, b2⟩ := hbd
    have e3 : o.tdiv 2 = ((pcl o : Nat) : Int) := by rw [Int.tdiv_eq_ediv_of_nonneg (by omega)]; exact e2
    have g1 : ((pcl o : Nat) : Int) < (N : Int) := by omega
    have e4 : IntKind.i64.wrap (cntF L (pcl o) + 1) = cntF L (pcl o) + 1 := IntWalk.i64_in _ (by omega)
    clear hO ho hk k0 hrow hput
    go_enter Try.func112, Try.ntmps112
    go_wp2_with (go_at_call 34; refine (rkind_any _ _ (by omega) (by omega)).mono ?_; rintro e w' ⟨rfl, rfl⟩)
    go_end0
    exact ⟨rfl, HP.out, (Turned.refl w (fun k => k = G)).setCell (.inl rfl) _⟩
  · have hkb : (kd o == 3) = false := by simpa using hk
    have hrow : cntRow (L ++ [o]) N = cntRow L N := by unfold cntRow; rw [cntF_other hk]
    have HR := Lib.hid hrow
    have HO := Lib.hid hO
    clear hO ho hk hrow
    go_enter Try.func112, Try.ntmps112
    go_wp2_with (go_at_call 34; refine (rkind_any _ _ (by omega) (by omega)).mono ?_; rintro e w' ⟨rfl, rfl⟩)
    go_end0
    exact ⟨rfl, by rw [HR.out]; exact HO.out, Turned.refl _ _⟩
end
end Go.Proofs.Ytjpppdacamhhfaa

namespace Go.Proofs.Ytjpppdacamhhfaa
open Go.RowKit
set_option linter.unusedVariables false

theorem cntRow_nil (N : Nat) : cntRow [] N = List.replicate N 0 := by
  apply list_ext_nth
  · rw [cntRow_len]; simp
  · intro j hj
    rw [cntRow_len] at hj
    rw [cntRow_nth hj]
    simp [cntF, nth, hj]
def RCountsOut (ws rs : List Int) (w : World) (e : Ending) (w' : World) : Prop :=
  ∃ A c, e = .returned (.slice A (cntL ws rs).length c) ∧ Own w' w.heap.size (.slice A (cntL ws rs).length c) (cntL ws rs) ∧ Below w.heap.size w w'
theorem all_le {ws rs : List Int} {pre l : List Nat} (hok : OkH ws) (h : places ws = pre ++ l) (hrl : rs.length ≤ 1000000) : (rs ++ pre.flatMap (holdsL ws)).length ≤ 50000000 := by
  have h1 := flat_le (f := holdsL ws) (c := 2001) pre (fun p hp => holds_le hok (by rw [h]; exact List.mem_append_left _ hp))
  have h2 : pre.length ≤ 2000 := by
    have h3 := places_len ws
    rw [h, List.length_append] at h3
    have := hok.most
    omega
  rw [List.length_append]; omega

set_option maxRecDepth 100000 in
set_option maxHeartbeats 4000000 in
theorem rcounts_any (ws rs : List Int) (b o c : Nat) (B : Option Addr) (d : Nat) (w : World) (hr : Row w b o ws) (hlt : b < w.heap.size) (hok : OkH ws) (hw : I64 ws)
    (hB : Ints w B rs) (hri : I64 rs) (hrl : rs.length ≤ 1000000) (hfit : ∀ o ∈ rs, fitsB ws o = true) :
    Calls Try.prog 61 #[.agg #[.slice (some ⟨b, o, none⟩) ws.length c], .slice B rs.length d] w (RCountsOut ws rs w) := by
  have hx0 : Below w.heap.size w (w.alloc (.cells #[.slice (some ⟨b, o, none⟩) ws.length c] 33)) := (Below.refl _ _).alloc (Nat.le_refl _) _
  have hh0 : Blk (w.alloc (.cells #[.slice (some ⟨b, o, none⟩) ws.length c] 33)) w.heap.size 33 #[.slice (some ⟨b, o, none⟩) ws.length c] := Blk.new _ _ _
  obtain ⟨q1, q2⟩ : 2 ≤ ws.length ∧ ws.length ≤ 2000 := ⟨hok.two, hok.most⟩
  have HR := Lib.hid (hr.below hx0 hlt); have HX0 := Lib.hid hx0; have HH0 := Lib.hid hh0
  have HB := Lib.hid (hB.below hx0)
  have HW := Lib.hid hw; have HOK := Lib.hid hok; have HRI := Lib.hid hri; have HFIT := Lib.hid hfit
  clear hr hx0 hh0 hB hw hok hri hfit
  have hsz : Hid (w.heap.size + 1 = (w.alloc (.cells #[.slice (some ⟨b, o, none⟩) ws.length c] 33)).heap.size) := by show _ = _; simp
  obtain ⟨x1, x2, x3⟩ := HH0.out.f1
  generalize hw1 : (w.alloc (.cells #[.slice (some ⟨b, o, none⟩) ws.length c] 33)) = w1 at HR HX0 HB hsz
  have HW1 := Lib.hid hw1; clear hw1 HH0
  have e9 : IntKind.i64.wrap ((ws.length : Int) + 1) = ((ws.length + 1 : Nat) : Int) := IntWalk.i64_in _ (by omega)
  go_enter Try.func61, Try.ntmps61
  go_wp2_with (at_make; rw [HW1.out]; refine wpList_zeros rfl _ _ rfl w1.heap.size (ws.length + 1) rfl rfl (by omega) (Nat.le_refl _) ?_; intro w3 hown3 hgr3; have HO3 := Lib.hid hown3; have HG3 := Lib.hid hgr3; clear hown3 hgr3)
  clear x1 x2 x3 HW1 e9
  have hbl : b < w1.heap.size := by have := hsz.out; omega
  have hb13 : Below w1.heap.size w1 w3 := (Below.refl _ _).grown HG3.out (Nat.le_refl _) (fun q hq => by cases hq)
  rw [← cntRow_nil (ws.length + 1)] at HO3
  have hsz3 : w1.heap.size ≤ w3.heap.size := hb13.size
  have HB13 := Lib.hid hb13
  clear hb13 HG3
  have hrowW : ∀ W, Below w1.heap.size w1 W → Row W b o ws := fun W hb => HR.out.below hb hbl
  have hBW : ∀ W, Below w1.heap.size w1 W → Ints W B rs := fun W hb => HB.out.below hb
  have HROW := Lib.hid hrowW; have HBW := Lib.hid hBW
  clear hrowW hBW HR HB
  generalize hN : ws.length + 1 = N at *
  have hNw : ws.length ≤ N := by omega
  have HNE := Lib.hid hN
  clear hN
  generalize hF : w1.heap.size = F at *
  have HFE := Lib.hid hF; clear hF
  go_loopw [7] (fun i wr => ∃ j : Nat, i = .int .i64 j ∧ j ≤ rs.length ∧ Own wr F (.slice (some ⟨F, 0, none⟩) N N) (cntRow (rs.take j) N) ∧ Below F w1 wr) (fun i _ => rs.length - (intOf i).toNat)
  case atStart => exact ⟨0, rfl, Nat.zero_le _, by rw [List.take_zero]; exact HO3.out, HB13.out⟩
  case round =>
    obtain ⟨j, rfl, hj, hown, hbw⟩ := hrel
    have HO := Lib.hid hown; have HBR := Lib.hid hbw
    clear hown hbw
    by_cases hjl : j < rs.length
    · obtain ⟨b', o', rfl, hb', hrow'⟩ := HBW.out _ HBR.out (by omega)
      have hcell := hrow' j hjl
      have hfj := HFIT.out (nth rs j) (by rw [nth_eq hjl]; exact List.getElem_mem _)
      have HFJ := Lib.hid hfj
      have hTK := Lib.hid (take_slot hjl)
      have hll : (rs.take j).length ≤ 100000000 := by rw [List.length_take]; omega
      have HLL := Lib.hid hll
      clear hrow' hfj hll
      go_wp2_with fail
      refine (one_more_any ws F F N N (rs.take j) (nth rs j) wr HO.out HFJ.out hNw HLL.out).mono ?_
      rintro e w6 ⟨rfl, ho6, ht6⟩
      have hb6 := HBR.out.trans (ht6.below (B := F) (Nat.le_of_lt (HO.out.lt _ rfl).2) (fun k hk e => by subst e; exact absurd hk (Nat.lt_irrefl _)))
      have HO6 := Lib.hid ho6; have HB6 := Lib.hid hb6
      clear ho6 ht6 hb6
      go_wp2_with fail
      go_roundw
      case rel => exact ⟨j + 1, by go_num, by omega, by rw [hTK.out]; exact HO6.out, HB6.out⟩
      case measure => simp [intOf]; omega
    · obtain rfl : j = rs.length := by omega
      rw [List.take_length] at HO
      go_wp2_with fail
      go_loopw [8] (fun i wr => ∃ (p : Nat) (pre : List Nat), i = .int .i64 p ∧ 2 ≤ p ∧ p ≤ 200000 ∧ badFrom ws p = none ∧ places ws = pre ++ plFrom ws p ∧ Own wr F (.slice (some ⟨F, 0, none⟩) N N) (cntRow (rs ++ pre.flatMap (holdsL ws)) N) ∧ Below F w1 wr) (fun i _ => ws.length - (intOf i).toNat)
      case atStart => exact ⟨2, [], rfl, by omega, by omega, HOK.out.bad, places_eq ws, by rw [List.flatMap_nil, List.append_nil]; exact HO.out, HBR.out⟩
      case round =>
        clear HO HBR HO3 HB13
        obtain ⟨p, pre, rfl, hp2, hp4, hbd, hpl, hown, hbr⟩ := hrel
        have hR := HROW.out _ hbr
        have hll := all_le HOK.out hpl hrl
        have HBD := Lib.hid hbd; have HPL := Lib.hid hpl; have HBR := Lib.hid hbr; have HO := Lib.hid hown; have HLL := Lib.hid hll
        clear hbd hpl hbr hown hll
        by_cases hpw : p < ws.length
        · obtain ⟨hbad, hnx⟩ := badFrom_none HBD.out hpw
          obtain ⟨n1, n2, n3, n4, n5⟩ := not_bad hbad
          have hpl2 : places ws = (pre ++ [p]) ++ plFrom ws (nxt ws p) := by rw [HPL.out, plFrom_ok hpw hbad]; simp
          have hpm : p ∈ places ws := by rw [hpl2]; simp
          have hcf := class_fits HOK.out hpm
          have hfl : rs ++ (pre ++ [p]).flatMap (holdsL ws) = (rs ++ pre.flatMap (holdsL ws)) ++ holdsL ws p := by rw [List.flatMap_append, ← List.append_assoc]; simp
          have HFL := Lib.hid hfl
          have HPL2 := Lib.hid hpl2; have HPM := Lib.hid hpm; have HCF := Lib.hid hcf
          have hcast := Lib.hid (nxt_cast hbad)
          have HNX := Lib.hid hnx; have HBAD := Lib.hid hbad
          have hnl := nxt_le hbad
          have hnxe : nxt ws p = p + 3 + slotsN ws p := rfl
          have hsn : slotsN ws p = (nth ws (p + 2) / 4).toNat := rfl
          have hsd : ((slotsN ws p : Nat) : Int) = nth ws (p + 2) / 4 := by omega
          have HSD := Lib.hid hsd
          have hc0 := hR p hpw
          have hH : holdsL ws p = nth ws p :: (if formOf ws p = 0 then slotsL ws p else []) := rfl
          have HH := Lib.hid hH
          have hLe : ∃ LL, LL = rs ++ pre.flatMap (holdsL ws) := ⟨_, rfl⟩
          obtain ⟨LL, hLe⟩ := hLe
          rw [← hLe] at HFL HLL HO
          have HSLEN := Lib.hid (slotsL_len HBAD.out)
          obtain ⟨u1, u2⟩ := HW.out (p + 2)
          clear hbad hnx hpl2 hpm hcf hR hfl hH hLe hsd
          go_wp2_with fail
          refine (one_more_any ws F F N N LL (nth ws p) wr HO.out HCF.out hNw (by have := HLL.out; omega)).mono ?_
          rintro e w6 ⟨rfl, ho6, ht6⟩
          have hb6 := HBR.out.trans (ht6.below (B := F) (Nat.le_of_lt (HO.out.lt _ rfl).2) (fun k hk e => by subst e; exact absurd hk (Nat.lt_irrefl _)))
          have HO6 := Lib.hid ho6; have HB6 := Lib.hid hb6
          clear ho6 ht6 hb6 hc0
          go_wp2_with fail
          go_loopw [9] (fun i wr => ∃ k : Nat, i = .int .i64 ((p + 3 + k : Nat) : Int) ∧ k ≤ slotsN ws p ∧ (formOf ws p ≠ 0 → k = 0) ∧ Own wr F (.slice (some ⟨F, 0, none⟩) N N) (cntRow ((LL ++ [nth ws p]) ++ (slotsL ws p).take k) N) ∧ Below F w1 wr) (fun i _ => 3000 - (intOf i).toNat)
          case atStart => exact ⟨0, by go_num, Nat.zero_le _, fun _ => rfl, by rw [List.take_zero, List.append_nil]; exact HO6.out, HB6.out⟩
          case round =>
            obtain ⟨k, rfl, hk, hform, hown, hbr⟩ := hrel
            have hR := HROW.out _ hbr
            have HFORM := Lib.hid hform; have HO9 := Lib.hid hown; have HBR9 := Lib.hid hbr
            have hc2 := hR (p + 2) (by omega)
            clear hform hown hbr
            by_cases hgo : k < slotsN ws p ∧ formOf ws p = 0
            · obtain ⟨hkl, hf0⟩ := hgo
              have hjl' : (p : Int) + 3 + k < (p : Int) + 3 + nth ws (p + 2) / 4 := by have := HSD.out; omega
              have hm0 : (nth ws (p + 2) % 4 == 0) = true := by have h9 : nth ws (p + 2) % 4 = 0 := hf0; simpa using h9
              have hcl9 := hR (p + 3 + k) (by omega)
              have hcf := slot_fits HOK.out HPM.out (by rw [hf0]; decide) hkl
              have HCF9 := Lib.hid hcf
              have hTK := Lib.hid (take_slot (xs := slotsL ws p) (k := k) (by have := HSLEN.out; omega))
              have hNS := Lib.hid (slotsL_nth HBAD.out hkl)
              have HF0 := Lib.hid hf0
              have hl9 : ((LL ++ [nth ws p]) ++ (slotsL ws p).take k).length ≤ 100000000 := by
                have h1 := HLL.out
                rw [List.length_append, List.length_append, List.length_take, List.length_singleton]; omega
              have HL9 := Lib.hid hl9
              clear hcf hf0 hR hl9
              go_wp2_with fail
              refine (one_more_any ws F F N N _ (nth ws (p + 3 + k)) wr HO9.out HCF9.out hNw HL9.out).mono ?_
              rintro e w10 ⟨rfl, ho10, ht10⟩
              have hb10 := HBR9.out.trans (ht10.below (B := F) (Nat.le_of_lt (HO9.out.lt _ rfl).2) (fun k hk e => by subst e; exact absurd hk (Nat.lt_irrefl _)))
              have HO10 := Lib.hid ho10; have HB10 := Lib.hid hb10
              clear ho10 ht10 hb10
              go_wp2_with fail
              go_roundw
              case rel => exact ⟨k + 1, by go_num, by omega, fun h => absurd HF0.out h, by rw [hTK.out, hNS.out, ← List.append_assoc]; exact HO10.out, HB10.out⟩
              case measure => simp [intOf]; omega
            · have hend : (LL ++ [nth ws p]) ++ (slotsL ws p).take k = LL ++ holdsL ws p := by
                rw [HH.out]
                by_cases hf0 : formOf ws p = 0
                · have : k = slotsN ws p := by
                    have : ¬ k < slotsN ws p := fun h => hgo ⟨h, hf0⟩
                    omega
                  rw [if_pos hf0, this, ← HSLEN.out, List.take_length]; simp
                · rw [if_neg hf0, HFORM.out hf0, List.take_zero]; simp
              have HOE := HO9.out
              rw [hend, ← HFL.out] at HOE
              have HOE' := Lib.hid HOE
              clear hend HOE hR
              by_cases hkl : k < slotsN ws p
              · have hjl' : (p : Int) + 3 + k < (p : Int) + 3 + nth ws (p + 2) / 4 := by have := HSD.out; omega
                have hm0 : (nth ws (p + 2) % 4 == 0) = false := by
                  have h9 : ¬ nth ws (p + 2) % 4 = 0 := fun h => hgo ⟨hkl, h⟩
                  simpa using h9
                clear hgo
                go_wp2_with fail
                go_roundw
                case rel => exact ⟨nxt ws p, pre ++ [p], by rw [hcast.out], by omega, by omega, HNX.out, HPL2.out, HOE'.out, HBR9.out⟩
                case measure => simp [intOf]; omega
              · have hjl' : ¬ (p : Int) + 3 + k < (p : Int) + 3 + nth ws (p + 2) / 4 := by have := HSD.out; omega
                clear hgo
                go_wp2_with fail
                go_roundw
                case rel => exact ⟨nxt ws p, pre ++ [p], by rw [hcast.out], by omega, by omega, HNX.out, HPL2.out, HOE'.out, HBR9.out⟩
                case measure => simp [intOf]; omega
        · have hpe : places ws = pre := by rw [HPL.out, plFrom_end (by omega), List.append_nil]
          subst hpe
          have hbdf := HLL.out
          have hO := HO.out
          change Own _ _ _ (cntRow (allL ws rs) N) at hO
          have hall : (allL ws rs).length ≤ 50000000 := hbdf
          have hbc : ∀ q, 0 ≤ cntF (allL ws rs) q ∧ cntF (allL ws rs) q ≤ 50000000 := fun q => by have := cntF_bd (allL ws rs) q; omega
          have HOL := Lib.hid hO; have HBC := Lib.hid hbc
          have hcl : cntL ws rs = (places ws).map (cntF (allL ws rs)) := rfl
          have HCL := Lib.hid hcl
          have hcn : ∀ q, q < N → nth (cntRow (allL ws rs) N) q = cntF (allL ws rs) q := fun q h => cntRow_nth h
          have HCN := Lib.hid hcn
          have hlen : (cntRow (allL ws rs) N).length = N := cntRow_len _ _
          have HLEN := Lib.hid hlen
          clear hO hbdf hall hbc hcl HLL HO HBD HPL hcn hlen
          generalize cntF (allL ws rs) = f at *
          generalize cntRow (allL ws rs) N = CR at *
          obtain ⟨wl, rfl⟩ : ∃ x, x = wr := ⟨_, rfl⟩
          have HBL := HBR
          have hFl : F ≤ wl.heap.size := (Nat.le_of_lt (HOL.out.lt _ rfl).2)
          have hrowL : ∀ W, Below wl.heap.size wl W → Row W b o ws := fun W h => HROW.out W (HBL.out.trans (h.mono hFl))
          have hownL : ∀ W, Below wl.heap.size wl W → Own W F (.slice (some ⟨F, 0, none⟩) N N) CR := fun W h => HOL.out.below h (fun q hq => (HOL.out.lt q hq).2)
          have HROWL := Lib.hid hrowL; have HOWNL := Lib.hid hownL
          clear HBR hR hrowL hownL
          go_wp2_with fail
          go_loopw [10, 11] (fun v i wr => ∃ (p : Nat) (pre : List Nat), i = .int .i64 p ∧ 2 ≤ p ∧ p ≤ 200000 ∧ badFrom ws p = none ∧ places ws = pre ++ plFrom ws p ∧ Below wl.heap.size wl wr ∧ Own wr wl.heap.size v (pre.map f)) (fun _ i _ => ws.length - (intOf i).toNat)
          case atStart => exact ⟨2, [], rfl, by omega, by omega, HOK.out.bad, places_eq ws, Below.refl _ _, Own.nil _ _⟩
          case round =>
            obtain ⟨p, pre, rfl, hp2, hp4, hbd, hpl, hb5, hown5⟩ := hrel
            have HBD := Lib.hid hbd; have HPL := Lib.hid hpl; have HB5 := Lib.hid hb5; have HO5 := Lib.hid hown5
            have hws : wl.heap.size ≤ wr.heap.size := hb5.size
            have hR := HROWL.out _ hb5
            have hNn := HOWNL.out _ hb5
            clear hbd hpl hb5 hown5
            by_cases hpw : p < ws.length
            · obtain ⟨hbad, hnx⟩ := badFrom_none HBD.out hpw
              obtain ⟨n1, n2, n3, n4, n5⟩ := not_bad hbad
              have hpl2 : places ws = (pre ++ [p]) ++ plFrom ws (nxt ws p) := by rw [HPL.out, plFrom_ok hpw hbad]; simp
              have HPL2 := Lib.hid hpl2
              have hcast := Lib.hid (nxt_cast hbad)
              have HNX := Lib.hid hnx
              have hnl := nxt_le hbad
              have hnxe : nxt ws p = p + 3 + slotsN ws p := rfl
              have hsn : slotsN ws p = (nth ws (p + 2) / 4).toNat := rfl
              have hcn := hNn.cell p (by rw [HLEN.out]; omega)
              rw [HCN.out p (by omega)] at hcn
              have hc2 := hR (p + 2) (by omega)
              have hpn : p < N := by omega
              have hly : (pre.map f).length ≤ 1000000000 := by
                have h3 := places_len ws
                rw [HPL.out, List.length_append] at h3
                rw [List.length_map]; omega
              have HLY := Lib.hid hly
              have hz6 : wl.heap.size ≤ (wr.alloc (.cells #[.int .i64 (f p)] 3)).heap.size := by rw [World.size_alloc]; omega
              have HMP := Lib.hid (show (pre ++ [p]).map f = pre.map f ++ [f p] by simp)
              clear hbad hnx hpl2 hR hNn hly
              go_wp2_with (at_builtin; refine wpList_pushN rfl _ _ rfl wl.heap.size _ (pre.map f) rfl (HO5.out.alloc _) wr.heap.size 1 (f p) rfl (cell_new wr _ _ _ 0) HLY.out hz6 ?_; intro g6 n6 cap6 w6 hown6 hg6 hgr6; have HO6 := Lib.hid hown6; have HB6 := Lib.hid ((HB5.out.alloc hws _).grown hgr6 hz6 (fun q hq => (HO5.out.lt q hq).1)); have hr6 := HROWL.out _ HB6.out (p + 2) (by omega); clear hown6 hgr6)
              go_roundw
              case rel => exact ⟨nxt ws p, pre ++ [p], by rw [hcast.out], by omega, by omega, HNX.out, HPL2.out, HB6.out, by rw [HMP.out]; exact HO6.out⟩
              case measure => simp [intOf]; omega
            · have hpe : places ws = pre := by rw [HPL.out, plFrom_end (by omega), List.append_nil]
              subst hpe
              rw [← HCL.out] at HO5
              obtain ⟨A5, c5, rfl, -⟩ := HO5.out.form2
              have hl2 : w.heap.size ≤ wl.heap.size := by have h1 := hsz.out; have h2 := HFE.out; omega
              have hl3 : w.heap.size ≤ w1.heap.size := HX0.out.size
              clear hR hNn
              go_wp2_with fail
              refine bodyPost_ret (v := .slice A5 (cntL ws rs).length c5) (by simp [results, Try.results61, go_sem]) rfl ⟨A5, c5, rfl, HO5.out.mono hl2, ?_⟩
              have h1 := HBL.out.trans (HB5.out.mono hFl)
              rw [← HFE.out] at h1
              exact HX0.out.trans (h1.mono hl3)
end Go.Proofs.Ytjpppdacamhhfaa

namespace Go.Proofs.Ytjpppdacamhhfaa
open Go.RowKit
set_option linter.unusedVariables false

def trialF (ps : List Nat) (f : Nat → Bool) : List Int := (ps.filter fun p => !f p).map fun (p : Nat) => 2 * (p : Int)
def TrialTold (ws rs : List Int) (w : World) (e : Ending) (w' : World) : Prop :=
  ∃ xs, (((rootsF ws rs).1 ≠ 0 ∧ xs = []) ∨ ((rootsF ws rs).1 = 0 ∧ ∃ f, Tells ws rs f ∧ xs = trialF (places ws) f)) ∧ Below w.heap.size w w' ∧ ∃ A c, e = .returned (.tuple #[.slice A xs.length c, fltV (rootsF ws rs).1 (rootsF ws rs).2]) ∧ Own w' w.heap.size (.slice A xs.length c) xs
theorem trial_yes {ps : List Nat} {f : Nat → Bool} {p : Nat} (h : f p = true) : trialF (ps ++ [p]) f = trialF ps f := by unfold trialF; rw [List.filter_append]; simp [h]
theorem trial_no {ps : List Nat} {f : Nat → Bool} {p : Nat} (h : f p = false) : trialF (ps ++ [p]) f = trialF ps f ++ [2 * (p : Int)] := by unfold trialF; rw [List.filter_append]; simp [h]
theorem trial_len (ps : List Nat) (f : Nat → Bool) : (trialF ps f).length ≤ ps.length := by unfold trialF; rw [List.length_map]; exact List.length_filter_le _ _
theorem numM_some {D : List Nat} {f : Nat → Int} {k : Int} {v : Value} (h : numM D f k = some v) : ∃ p : Nat, k = p ∧ p ∈ D ∧ v = .int .i64 (f p) := by
  unfold numM at h
  split at h
  · rename_i hc
    exact ⟨k.toNat, by omega, hc.2, by cases h; rfl⟩
  · cases h
theorem numM_in {D : List Nat} {f : Nat → Int} {p : Nat} (h : p ∈ D) : numM D f (p : Int) = some (.int .i64 (f p)) := by unfold numM; rw [if_pos ⟨by omega, by simpa using h⟩]; simp

theorem HoldS.iter {w0 w w' : World} {F Bt Bv Bh M g r : Nat} {H : List Nat} (h : HoldS w0 F Bt Bv Bh M g H w) (hg : w.grownBy w' (some r)) (hF : F ≤ r) (h1 : Bt ≠ r) (h2 : Bv ≠ r) (h3 : Bh ≠ r) (h4 : M ≠ r) : HoldS w0 F Bt Bv Bh M g H w' := by
  obtain ⟨n, hm⟩ := h.map_
  exact ⟨h.bt.grown hg (fun e => h1 (by cases e; rfl)), h.bv.grown hg (fun e => h2 (by cases e; rfl)), h.bh.grown hg (fun e => h3 (by cases e; rfl)), ⟨n, hm.grown hg (fun e => h4 (by cases e; rfl))⟩,
    h.below.grown hg h.lo.2.1 (fun k e => by cases e; exact hF), h.lo.1, Nat.le_trans h.lo.2.1 hg.size, h.lo.2.2⟩
theorem HeldI.drop {ws rs : List Int} {H0 H : List Nat} {L : List Int} (h : HeldI ws rs H0 H L) : HeldI ws rs H0 H [] := ⟨h.nodup, h.sub, fun o ho => by simp at ho, h.closed, h.rch⟩

set_option maxRecDepth 100000 in
set_option maxHeartbeats 4000000 in
theorem trial_any (ws rs : List Int) (A B : Option Addr) (c d : Nat) (w : World) (hA : Ints w A ws) (hcap : ws.length ≤ c) (hw : I64 ws) (hl : ws.length ≤ 9223372036854775807)
    (hB : Ints w B rs) (hr : I64 rs) (hrl : rs.length ≤ 1000000) : Calls Try.prog 60 #[.agg #[.slice A ws.length c], .slice B rs.length d] w (TrialTold ws rs w) := by
  have hx0 : Below w.heap.size w ((w.alloc (.cells #[.slice A ws.length c] 33)).alloc (.cells #[.int .i64 0, .int .i64 0] 36)) := ((Below.refl _ _).alloc (Nat.le_refl _) _).alloc (by simp) _
  have hh0 : Blk ((w.alloc (.cells #[.slice A ws.length c] 33)).alloc (.cells #[.int .i64 0, .int .i64 0] 36)) w.heap.size 33 #[.slice A ws.length c] := (Blk.new _ _ _).alloc _
  have hr2 : Blk ((w.alloc (.cells #[.slice A ws.length c] 33)).alloc (.cells #[.int .i64 0, .int .i64 0] 36)) (w.heap.size + 1) 36 #[.int .i64 0, .int .i64 0] := by
    have := Blk.new (w.alloc (.cells #[.slice A ws.length c] 33)) 36 #[.int .i64 0, .int .i64 0]
    simpa using this
  have HX0 := Lib.hid hx0; have HH0 := Lib.hid hh0; have HR2 := Lib.hid hr2
  have HA := Lib.hid (hA.below hx0); have HB := Lib.hid (hB.below hx0)
  have HW := Lib.hid hw; have HRW := Lib.hid hr
  clear hx0 hh0 hr2 hA hB hw hr
  go_enter Try.func60, Try.ntmps60
  go_wp2_with fail
  generalize hw1 : ((w.alloc (.cells #[.slice A ws.length c] 33)).alloc (.cells #[.int .i64 0, .int .i64 0] 36)) = w1 at *
  clear hw1
  refine (rsee_any ws rs A B c d w1 HA.out hcap HW.out hl HB.out HRW.out (by omega)).mono ?_
  rintro e w2 ⟨hb2, h⟩
  have HL2 := Lib.hid (HX0.out.trans (hb2.mono HX0.out.size))
  have HR22 := Lib.hid (HR2.out.below hb2 HR2.out.lt)
  have HB2 := Lib.hid (HB.out.below hb2)
  have hRlt : w.heap.size + 1 < w2.heap.size := HR22.out.lt
  clear hb2
  obtain ⟨z1, z2, z3, z4, z5⟩ := HR22.out.f2
  rcases h with ⟨h0, rfl⟩ | ⟨h0, g, rfl, hv⟩
  · have h1 : ((rootsF ws rs).1 != 0) = true := by simpa using h0
    have HN := Lib.hid h0
    clear h0
    have hz3 : Hid ((w2.alloc (.cells #[.pointer none] 104)).heap.size = w2.heap.size + 1) := by show _ = _; simp
    have hf3 : Blk ((w2.alloc (.cells #[.pointer none] 104)).alloc (.cells #[.int .i64 (rootsF ws rs).1, .int .i64 (rootsF ws rs).2] 36)) (w2.heap.size + 1) 36 #[.int .i64 (rootsF ws rs).1, .int .i64 (rootsF ws rs).2] := by
      have := Blk.new (w2.alloc (.cells #[.pointer none] 104)) 36 #[.int .i64 (rootsF ws rs).1, .int .i64 (rootsF ws rs).2]
      rwa [hz3.out] at this
    have HF3 := Lib.hid hf3
    have HR3 := Lib.hid ((HR22.out.alloc (.cells #[.pointer none] 104)).alloc (.cells #[.int .i64 (rootsF ws rs).1, .int .i64 (rootsF ws rs).2] 36))
    have HL3 := Lib.hid ((HL2.out.alloc (by omega) (.cells #[.pointer none] 104)).alloc (by rw [hz3.out]; omega) (.cells #[.int .i64 (rootsF ws rs).1, .int .i64 (rootsF ws rs).2] 36))
    clear z1 z2 z3 z4 z5 hf3
    unfold seeV fltV
    go_wp2_with fail
    generalize ((w2.alloc (.cells #[.pointer none] 104)).alloc (.cells #[.int .i64 (rootsF ws rs).1, .int .i64 (rootsF ws rs).2] 36)) = w3 at *
    obtain ⟨z1, z2, z3, z4, z5⟩ := HR3.out.f2
    obtain ⟨y1, y2, y3, y4, y5⟩ := HF3.out.f2
    go_region
    all_goals (try go_wp2)
    all_goals
      refine bodyPost_ret (v := .tuple #[.slice none 0 0, fltV (rootsF ws rs).1 (rootsF ws rs).2]) (by simp [results, Try.results60, go_sem, fltV, z1, z2]) rfl ⟨[], .inl ⟨HN.out, rfl⟩, ?_, none, 0, rfl, Own.nil _ _⟩
      repeat (first | exact HL3.out | refine Below.drew ?_ | refine Below.setCell ?_ (by dsimp only; omega) _)
  · obtain ⟨hokh, -, -, hfit, hz⟩ := rootsF_zero h0
    have HV := Lib.hid hv; have HOK := Lib.hid hokh; have HFIT := Lib.hid hfit; have HZ := Lib.hid hz
    have hq2 : ws.length ≤ 2000 := hokh.most
    clear hv hokh hz h0 hfit
    have hz3 : Hid ((w2.alloc (.cells #[.pointer (some ⟨g, 0, none⟩)] 104)).heap.size = w2.heap.size + 1) := by show _ = _; simp
    have hx3 : Below w2.heap.size w2 ((w2.alloc (.cells #[.pointer (some ⟨g, 0, none⟩)] 104)).alloc (.cells #[.int .i64 0, .int .i64 0] 36)) := ((Below.refl _ _).alloc (Nat.le_refl _) _).alloc (by simp) _
    have hf3 : Blk ((w2.alloc (.cells #[.pointer (some ⟨g, 0, none⟩)] 104)).alloc (.cells #[.int .i64 0, .int .i64 0] 36)) (w2.heap.size + 1) 36 #[.int .i64 0, .int .i64 0] := by
      have := Blk.new (w2.alloc (.cells #[.pointer (some ⟨g, 0, none⟩)] 104)) 36 #[.int .i64 0, .int .i64 0]
      rwa [hz3.out] at this
    have HF3 := Lib.hid hf3
    have HBV := Lib.hid ((Blk.new w2 104 #[.pointer (some ⟨g, 0, none⟩)]).alloc (.cells #[.int .i64 0, .int .i64 0] 36))
    have HL3 := Lib.hid (HL2.out.trans (hx3.mono HL2.out.size))
    have HR23 := Lib.hid (HR22.out.below hx3 HR22.out.lt)
    have HB3 := Lib.hid (HB2.out.below hx3); have HV3 := Lib.hid (HV.out.below hx3)
    have hs3 : w2.heap.size + 1 < ((w2.alloc (.cells #[.pointer (some ⟨g, 0, none⟩)] 104)).alloc (.cells #[.int .i64 0, .int .i64 0] 36)).heap.size := by simp
    clear hx3 hf3 z1 z2 z3 z4 z5
    unfold fltV
    go_wp2_with fail
    generalize hw3 : ((w2.alloc (.cells #[.pointer (some ⟨g, 0, none⟩)] 104)).alloc (.cells #[.int .i64 0, .int .i64 0] 36)) = w3 at *
    clear hw3
    generalize hBv : w2.heap.size = Bv at *
    have HBVE := Lib.hid hBv; clear hBv
    refine (counts_any ws rs g B d w3 HV3.out HOK.out HW.out HB3.out hrl HFIT.out).mono ?_
    rintro e w4 ⟨M, n, D, rfl, hm, hz, hM, hb4⟩
    obtain ⟨b, o', c', Mq, A', oc, v0, -, v2, hg, hb, hcc, hrow, hord⟩ := HV3.out.cells
    generalize hF : w3.heap.size = F at *
    have hvw : ∀ W, Below F w3 W → ViewAt W g ws := fun W h => HV3.out.below (by rw [hF]; exact h)
    have hrw : ∀ W, Below F w3 W → Row W b o' ws ∧ b < W.heap.size := fun W h => ⟨hrow.below h hb, Nat.lt_of_lt_of_le (by rw [hF]; exact hb) h.size⟩
    have hcw : ∀ W, Below F w3 W → W.cell? ⟨g, 0, none⟩ = some (.slice (some ⟨b, o', none⟩) ws.length c') := fun W h => (h.cell (p := ⟨g, 0, none⟩) hg).trans v0
    have hc2 : ∀ W, Below F w3 W → W.cell? ⟨g, 2, none⟩ = some (.slice A' (places ws).length oc) := fun W h => (h.cell (p := ⟨g, 2, none⟩) hg).trans v2
    have how : ∀ W, Below F w3 W → Ints W A' (ups (places ws)) := fun W h => hord.below (by rw [hF]; exact h)
    have hbv : ∀ W, Below F w3 W → Blk W Bv 104 #[.pointer (some ⟨g, 0, none⟩)] := fun W h => HBV.out.below h (by omega)
    have HVW := Lib.hid hvw; have HRW := Lib.hid hrw; have HCW := Lib.hid hcw; have HC2 := Lib.hid hc2; have HOW := Lib.hid how; have HBVW := Lib.hid hbv
    have hM4 := hm.lt
    have h34 : F ≤ w4.heap.size := by have := hb4.size; omega
    have hlp : (places ws).length ≤ ws.length := places_len ws
    have hall : (allL ws rs).length ≤ 50000000 := all_le (l := []) HOK.out (by rw [List.append_nil]) hrl
    have HALL := Lib.hid hall
    have hb45 : Below F w3 (w4.alloc (.cells #[.map (some M)] 110)) := hb4.alloc h34 _
    have hcs : SubS (allL ws rs) w3 F w4.heap.size M [] (w4.alloc (.cells #[.map (some M)] 110)) := by
      refine ⟨Blk.new _ _ _, ⟨n, D, ?_, fun q hq => by rw [subF_nil]; exact hz q hq⟩, hb45, hM, h34, by omega, by simp; omega⟩
      rw [subF_nil]; exact hm.alloc _
    have HCS := Lib.hid hcs
    clear hvw hrw hcw hc2 how hbv hm hz hb4 hb45 hcs v0 v2 hrow hord HBV HV HV3 HB2 HB3 hall
    obtain ⟨y1, y2, y3⟩ := (HBVW.out _ HCS.out.below).f1
    have y5 := HC2.out _ HCS.out.below
    have hsz5 : w4.heap.size + 1 = (w4.alloc (.cells #[.map (some M)] 110)).heap.size := by simp
    go_wp2_with fail
    clear y1 y2 y3 y5
    generalize hBx : w4.heap.size = Bx at *
    have HBX := Lib.hid hBx
    have hBVW9 : Bv < F := by omega
    clear hBx
    generalize (w4.alloc (.cells #[.map (some M)] 110)) = w5 at *
    have hmf : ∀ (fn : Fn) (first cap : Array Value) (W : World), (Instr.makeFunc fn first cap).run Try.prog W = .ok (.func fn first cap) W := fun _ _ _ _ => rfl
    have hmm := @run_makeMap Try.prog
    go_loopw [38] (fun i wr => ∃ j : Nat, i = .int .i64 j ∧ j ≤ (places ws).length ∧ SubS (allL ws rs) w3 F Bx M (((places ws).take j).flatMap (holdsL ws)) wr) (fun i _ => (places ws).length - (intOf i).toNat)
    case atStart => exact ⟨0, rfl, Nat.zero_le _, by rw [List.take_zero, List.flatMap_nil]; exact HCS.out⟩
    case round =>
      clear HCS
      obtain ⟨j, rfl, hj, hs⟩ := hrel
      have HS := Lib.hid hs
      have hMlr : M < wr.heap.size := by obtain ⟨n, D, hm, _⟩ := hs.map_; exact hm.lt
      by_cases hjl : j < (places ws).length
      · obtain ⟨b1, o1, hA, -, r1⟩ := HOW.out _ HS.out.below (by rw [ups_len]; omega)
        subst hA
        have e1 := r1 j (by rw [ups_len]; exact hjl)
        rw [ups_nth hjl, getD_el hjl] at e1
        have hpm : (places ws)[j] ∈ places ws := List.getElem_mem hjl
        have HPM := Lib.hid hpm
        have hpb := places_mem hpm
        have hll : (((places ws).take j).flatMap (holdsL ws)).length ≤ 50000000 := by
          have h1 := flat_le (f := holdsL ws) (c := 2001) ((places ws).take j) (fun p hp => holds_le HOK.out (List.mem_of_mem_take hp))
          have h2 := List.length_take_le j (places ws)
          omega
        have hTK : (places ws).take (j + 1) = (places ws).take j ++ [(places ws)[j]] := List.take_succ_eq_append_getElem hjl
        have HTK := Lib.hid hTK
        have HLL := Lib.hid hll
        obtain ⟨y1, y2, y3⟩ := hs.blk.f1
        obtain ⟨u1, u2, u3⟩ := (HBVW.out _ hs.below).f1
        clear hs r1 hpm hTK hll
        generalize (places ws)[j] = p at *
        obtain ⟨p2, pl, -⟩ := hpb
        go_wp2_with fail
        refine (given_gen ws g b o' c' w3 _ F M 110 #[.pointer (some ⟨Bx, 0, none⟩)] (SubS (allL ws rs) w3 F Bx M) _ p HS.out HLL.out HOK.out HW.out HPM.out HVW.out HRW.out HCW.out hcc hMlr (fun L W h => h.below) (fun L W W' h hb => h.turn hb)
          (fun Bf L x W h hB _ hx hfx hLx => tellm_any ws (allL ws rs) w3 W F Bx M Bf L x h hB hLx (by have := HALL.out; omega) hfx)).mono ?_
        rintro e w6 ⟨rfl, hs6, -⟩
        have HS6 := Lib.hid hs6
        clear hs6
        go_wp2_with fail
        go_roundw
        case rel =>
          refine ⟨j + 1, by go_num, by omega, ?_⟩
          have h9 := HS6.out
          rw [HTK.out, List.flatMap_append]
          simpa using h9
        case measure => simp [intOf]; omega
      · obtain rfl : j = (places ws).length := by omega
        rw [List.take_length] at HS
        obtain ⟨n, D, hm, hz⟩ := HS.out.map_
        have hsub : subF (allL ws rs) ((places ws).flatMap (holdsL ws)) = cntF rs := subF_all rs _
        rw [hsub] at hm hz
        have HM := Lib.hid hm; have HZM := Lib.hid hz
        have hbw := HS.out.below
        have hFw := HS.out.lo.2.2.2
        have hBw := HS.out.blk
        have hBxM := HS.out.lo.2.2.1
        clear hs hm hz hsub
        have hz6 : (wr.alloc (.map #[] 0)).heap.size = wr.heap.size + 1 := by simp
        have hz7 : ((wr.alloc (.map #[] 0)).alloc (.cells #[.map (some wr.heap.size)] 127)).heap.size = wr.heap.size + 1 + 1 := by simp
        have hbh := Blk.new ((wr.alloc (.map #[] 0)).alloc (.cells #[.map (some wr.heap.size)] 127)) 126 #[.nilFunc]
        rw [hz7] at hbh
        have hbl := Blk.new ((wr.alloc (.map #[] 0)).alloc (.cells #[.map (some wr.heap.size)] 127)) 126 #[holdV (wr.heap.size + 1) Bv (wr.heap.size + 1 + 1)]
        rw [hz7] at hbl
        have hbt := (Blk.new (wr.alloc (.map #[] 0)) 127 #[.map (some wr.heap.size)]).alloc (.cells #[holdV (wr.heap.size + 1) Bv (wr.heap.size + 1 + 1)] 126)
        rw [hz6] at hbt
        have hmn := ((MapI.new wr).alloc (.cells #[.map (some wr.heap.size)] 127)).alloc (.cells #[holdV (wr.heap.size + 1) Bv (wr.heap.size + 1 + 1)] 126)
        rw [← seenM_nil] at hmn
        have hbe : Below wr.heap.size wr (((wr.alloc (.map #[] 0)).alloc (.cells #[.map (some wr.heap.size)] 127)).alloc (.cells #[holdV (wr.heap.size + 1) Bv (wr.heap.size + 1 + 1)] 126)) := (((Below.refl _ _).alloc (Nat.le_refl _) _).alloc (by omega) _).alloc (by omega) _
        have HHS : Hid (HoldS w3 F (wr.heap.size + 1) Bv (wr.heap.size + 1 + 1) wr.heap.size g [] (((wr.alloc (.map #[] 0)).alloc (.cells #[.map (some wr.heap.size)] 127)).alloc (.cells #[holdV (wr.heap.size + 1) Bv (wr.heap.size + 1 + 1)] 126))) :=
          ⟨hbt, HBVW.out _ (hbw.trans (hbe.mono hFw)), hbl, ⟨0, hmn⟩, hbw.trans (hbe.mono hFw), hFw, Nat.le_trans hFw hbe.size, by omega, by have := hBVW9; omega, by omega⟩
        have HM8 := Lib.hid (HM.out.below hbe HM.out.lt)
        have HBE := Lib.hid hbe
        obtain ⟨t1, t2, t3⟩ := hbh.f1
        obtain ⟨s1, s2, s3⟩ := hBw.f1
        obtain ⟨s4, s5, s6⟩ := (hBw.below hbe hBw.lt).f1
        clear hbt hmn hbe hbh hbl hz6 hz7
        go_wp2_with (at_range; refine wpList_rangeI rfl _ 110 3 rfl Try.underlying110 rfl HM8.out ?_; intro w8 hrg hb8 hs8; have HRG8 := Lib.hid hrg; have HB8 := Lib.hid hb8; clear hrg hb8)
        go_frame
        clear t1 t2 t3 s1 s2 s3 s4 s5 s6 hmm hmf
        have hMr := HM.out.lt
        generalize hMh : wr.heap.size = Mh at *
        generalize (((wr.alloc (.map #[] 0)).alloc (.cells #[.map (some Mh)] 127)).alloc (.cells #[holdV (Mh + 1) Bv (Mh + 1 + 1)] 126)) = w7 at *
        have hr7 : Mh + 1 + 1 < w7.heap.size := HHS.out.bh.lt
        have HHS8 := Lib.hid (HHS.out.turn HB8.out)
        have HMHE := Lib.hid hMh
        clear hMh
        generalize w7.heap.size = r at *
        go_loopw [13] (fun _ wr => ∃ (H : List Nat) (done : List Int), HoldS w3 F (Mh + 1) Bv (Mh + 1 + 1) Mh g H wr ∧ HeldI ws rs [] H [] ∧ RangI wr M r (numM D (cntF rs)) done ∧ (∀ p : Nat, (p : Int) ∈ done → 0 < cntF rs p → p ∈ H)) (fun _ wr => wr.rangeLeft M r)
        case atStart => exact ⟨[], [], HHS8.out, HeldI.start (by simp) (by simp), HRG8.out, by simp⟩
        case round =>
          obtain ⟨H, done, hs, hi, hrg, hdn⟩ := hrel
          have HS9 := Lib.hid hs; have HI9 := Lib.hid hi; have HRG9 := Lib.hid hrg; have HDN := Lib.hid hdn
          clear hs hi hrg hdn HHS8 HRG8
          go_wp2_with (at_next; refine wpList_nextI rfl _ rfl rfl HRG9.out ?_ ?_)
          · intro hdone
            have hroots : ∀ o ∈ rs, kd o = 3 → pcl o ∈ H := fun o ho hk => by
              have h1 : 0 < cntF rs (pcl o) := cntF_pos.2 ⟨o, ho, hk, rfl⟩
              have h2 : pcl o ∈ D := Classical.byContradiction fun e => by have := HZM.out _ e; omega
              exact HDN.out _ (hdone _ _ (numM_in h2)) h1
            have hall := HI9.out.all hroots
            have hT : Tells ws rs (fun p => decide (p ∈ H)) := fun p => by rw [decide_eq_true_eq]; exact hall p
            have HT := Lib.hid hT
            have hbl := HS9.out.below
            have hFl := HS9.out.lo.2.1
            obtain ⟨nM, hmM⟩ := HS9.out.map_
            have hBT := HS9.out.bt
            obtain ⟨y1, y2, y3⟩ := (HBVW.out _ hbl).f1
            have y5 := HC2.out _ hbl
            clear hdone hroots hall hT HDN HI9 HRG9
            obtain ⟨wl, rfl⟩ : ∃ x, x = wr := ⟨_, rfl⟩
            have HMM := Lib.hid hmM; have HBT := Lib.hid hBT; have HBL := Lib.hid hbl
            have HIN := Lib.hid (HOW.out _ hbl)
            clear hmM hBT hbl HS9
            have hfe : ∀ p, (fun p => decide (p ∈ H)) p = decide (p ∈ H) := fun _ => rfl
            have HFE := Lib.hid hfe
            clear hfe
            generalize hfd : (fun p => decide (p ∈ H)) = f at *
            clear hfd
            have hz := zeroU
            go_wp2_with fail
            clear y1 y2 y3 y5
            go_loopw [15, 67] (fun v i u => ∃ j : Nat, i = .int .i64 j ∧ j ≤ (places ws).length ∧ Below wl.heap.size wl u ∧ Own u wl.heap.size v (trialF ((places ws).take j) f)) (fun _ i _ => (places ws).length - (intOf i).toNat)
            case atStart => exact ⟨0, rfl, Nat.zero_le _, Below.refl _ _, Own.nil _ _⟩
            case round =>
              obtain ⟨j, rfl, hj, hb5, hown5⟩ := hrel
              have HB5 := Lib.hid hb5; have HO5 := Lib.hid hown5
              have hws : wl.heap.size ≤ wr.heap.size := hb5.size
              clear hb5 hown5
              by_cases hjl : j < (places ws).length
              · obtain ⟨b1, o1, hA, hblt, r1⟩ := HIN.out (by rw [ups_len]; omega)
                subst hA
                have e1 := (r1.below HB5.out hblt) j (by rw [ups_len]; exact hjl)
                rw [ups_nth hjl, getD_el hjl] at e1
                have hpb := places_mem (List.getElem_mem hjl)
                have hTK : (places ws).take (j + 1) = (places ws).take j ++ [(places ws)[j]] := List.take_succ_eq_append_getElem hjl
                have HTK := Lib.hid hTK
                have hly : (trialF ((places ws).take j) f).length ≤ 1000000000 := by
                  have h1 := trial_len ((places ws).take j) f
                  have h2 := List.length_take_le j (places ws)
                  omega
                have HLY := Lib.hid hly
                clear r1 hTK hly
                generalize (places ws)[j] = p at *
                obtain ⟨p2, pl, -⟩ := hpb
                have hrun := (HMM.out.below HB5.out HMM.out.lt).look (t := 127) (e := 128) Try.underlying127 (zeroU _) true (p : Int) (by omega) (by omega)
                rw [seenM_at, seenM_get, ← HFE.out p] at hrun
                simp only [if_true] at hrun
                obtain ⟨t1, t2, t3⟩ := (HBT.out.below HB5.out HBT.out.lt).f1
                cases hfp : f p
                · have HFP : Hid (trialF ((places ws).take j ++ [p]) f = trialF ((places ws).take j) f ++ [2 * (p : Int)]) := trial_no hfp
                  rw [hfp] at hrun
                  have hz6 : wl.heap.size ≤ ((wr.alloc (.cells #[] 128)).alloc (.cells #[.int .i64 (2 * (p : Int))] 3)).heap.size := by rw [World.size_alloc, World.size_alloc]; omega
                  have hcn := cell_new (wr.alloc (.cells #[] 128)) #[.int .i64 (2 * (p : Int))] 3 (0, 0) 0
                  rw [World.size_alloc] at hcn
                  have HCN := Lib.hid hcn
                  clear hfp hcn
                  go_wp2_with (at_builtin; refine wpList_pushN rfl _ _ rfl wl.heap.size _ (trialF ((places ws).take j) f) rfl ((HO5.out.alloc _).alloc _) (wr.heap.size + 1) 1 (2 * (p : Int)) rfl HCN.out HLY.out hz6 ?_; intro g6 n6 cap6 w6 hown6 hg6 hgr6; have HO6 := Lib.hid hown6; have HB6 := Lib.hid (((HB5.out.alloc hws _).alloc (by rw [World.size_alloc]; omega) _).grown hgr6 hz6 (fun q hq => (HO5.out.lt q hq).1)); clear hown6 hgr6)
                  go_roundw
                  case rel => exact ⟨j + 1, by go_num, by omega, HB6.out, by rw [HTK.out, HFP.out]; exact HO6.out⟩
                  case measure => simp [intOf]; omega
                · have HFP : Hid (trialF ((places ws).take j ++ [p]) f = trialF ((places ws).take j) f) := trial_yes hfp
                  rw [hfp] at hrun
                  clear hfp
                  go_wp2_with fail
                  go_roundw
                  case rel => exact ⟨j + 1, by go_num, by omega, HB5.out.alloc hws _, by rw [HTK.out, HFP.out]; exact HO5.out.alloc _⟩
                  case measure => simp [intOf]; omega
              · obtain rfl : j = (places ws).length := by omega
                have hO5 := HO5.out
                rw [List.take_length] at hO5
                obtain ⟨A5, c5, rfl, -⟩ := hO5.form2
                have hbf := HBL.out.trans (HB5.out.mono hFl)
                have h5 : Below w3.heap.size w3 wr := by rw [hF]; exact hbf
                have hlt1 : w.heap.size + 1 < w3.heap.size := HR23.out.lt
                obtain ⟨z1, z2, z3, z4, z5⟩ := (HR23.out.below h5 HR23.out.lt).f2
                obtain ⟨r1, r2, r3, r4, r5⟩ := (HF3.out.below h5 HF3.out.lt).f2
                have HO6 := Lib.hid hO5
                have HL5 := Lib.hid (HL3.out.trans (h5.mono HL3.out.size))
                have hl1 : w.heap.size + 1 < wl.heap.size := by omega
                clear hO5 hbf h5
                go_wp2_with fail
                go_region
                all_goals (try go_wp2)
                all_goals
                  refine bodyPost_ret (v := .tuple #[.slice A5 (trialF (places ws) f).length c5, fltV 0 0]) (by simp [results, Try.results60, go_sem, fltV, z1, z2]) rfl ⟨trialF (places ws) f, .inr ⟨by rw [HZ.out], f, HT.out, rfl⟩, ?_, A5, c5, by rw [HZ.out], ?_⟩
                  · repeat (first | exact HL5.out | refine Below.drew ?_ | refine Below.setCell ?_ (by dsimp only; omega) _ | refine Below.alloc ?_ (by simp; omega) _)
                  · have hoo := HO6.out.mono (show w.heap.size ≤ wl.heap.size by omega)
                    repeat (first | exact hoo | refine Own.setCell ?_ _ (fun e => by have := (HO6.out.lt _ e).1; dsimp only at this; omega) _ | refine Own.alloc ?_ _ | refine Own.drewN ?_ 1)
          · intro k v w9 hkv hwf hrg9 hlt hg9 hs9 hen
            obtain ⟨p, rfl, hpD, rfl⟩ := numM_some hkv
            have hbd := cntF_bd rs p
            have hS9 := HS9.out.iter hg9 (by omega) (by omega) (by omega) (by omega) (by omega)
            have HS10 := Lib.hid hS9
            have HRG10 := Lib.hid hrg9
            have hrl := hrg9.lt
            obtain ⟨y1, y2, y3⟩ := hS9.bh.f1
            by_cases hpos : 0 < cntF rs p
            · obtain ⟨o0, ho0, hk0, hp0⟩ := cntF_pos.1 hpos
              have hro : Rch ws rs p := by rw [← hp0]; exact .root o0 ho0 hk0
              obtain ⟨q1, q2, q3⟩ := (kd_three o0).1 hk0
              have hpp : 2 ≤ p ∧ p ≤ 1999 := by rw [← hp0]; unfold pcl; omega
              obtain ⟨hp2, hp3⟩ := hpp
              have hcall := hold_any ws rs g b o' c' w3 F (Mh + 1) Bv (Mh + 1 + 1) Mh HOK.out HW.out HFIT.out HVW.out HRW.out HCW.out hcc (places ws).length H (2 * (p : Int)) w9 (by omega) hS9 HI9.out.nodup HI9.out.rch (kd_dbl hp2 hp3) (by rw [pcl_dbl]; exact hro)
              have HCALL := Lib.hid hcall
              have HDN2 : Hid (∀ q : Nat, (q : Int) ∈ done ++ [(p : Int)] → 0 < cntF rs q → q ∈ H ∨ q = p) := fun q hq h => by
                rcases List.mem_append.1 hq with hq | hq
                · exact .inl (HDN.out q hq h)
                · rw [List.mem_singleton] at hq; exact .inr (by omega)
              clear hkv hwf hrg9 hg9 hS9 hcall hro ho0 hk0 hp0 HDN q1 q2 q3 o0
              generalize cntF rs p = x at *
              go_wp2_with (go_at_call 111; refine HCALL.out.mono ?_; rintro e w10 ⟨rfl, hh10, ht10⟩; have HH10 := Lib.hid hh10; have HT10 := Lib.hid ht10; clear hh10 ht10)
              obtain ⟨H', h1, h2⟩ := HH10.out
              obtain ⟨k1, k2⟩ := HRG10.out.kept (HT10.out.block M hrl.1 (by omega)) (HT10.out.block r hrl.2 (by omega))
              go_roundw
              case rel =>
                refine ⟨H', done ++ [(p : Int)], h1, (HI9.out.step h2).drop, k1, fun q hq h => ?_⟩
                rcases HDN2.out q hq h with h | h
                · exact h2.sub q h
                · have := h2.hit _ (List.mem_singleton.2 rfl) (kd_dbl hp2 hp3)
                  rw [pcl_dbl] at this
                  rw [h]; exact this
              case measure => rw [k2]; exact hlt
            · have HDN2 : Hid (∀ q : Nat, (q : Int) ∈ done ++ [(p : Int)] → 0 < cntF rs q → q ∈ H) := fun q hq h => by
                rcases List.mem_append.1 hq with hq | hq
                · exact HDN.out q hq h
                · rw [List.mem_singleton] at hq
                  obtain rfl : q = p := by omega
                  exact absurd h hpos
              clear hkv hwf hrg9 hg9 hS9 HDN
              generalize cntF rs p = x at *
              go_wp2_with fail
              go_roundw
              case rel => exact ⟨H, done ++ [(p : Int)], HS10.out, HI9.out, HRG10.out, HDN2.out⟩
              case measure => exact hlt
end Go.Proofs.Ytjpppdacamhhfaa
