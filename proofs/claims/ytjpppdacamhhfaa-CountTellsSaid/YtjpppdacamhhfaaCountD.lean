/- count's counts: how often each thing is held. Conditions: a view of a heap that may be, roots that fit. -/
import Derived.Test.YtjpppdacamhhfaaCountC
namespace Go.Proofs.Ytjpppdacamhhfaa
open Go.RowKit
set_option linter.unusedVariables false

/-- All that is held: by the roots, by the things. -/
def allL (ws rs : List Int) : List Int := rs ++ (places ws).flatMap (holdsL ws)
theorem CntS.more {w0 w w' : World} {F Bx M n : Nat} {L : List Int} {D : List Nat} {o : Int} (h : CntS w0 w F Bx M L) (hk : kd o = 3) (hz : ∀ q, q ∉ D → cntF L q = 0)
    (hm : MapI w' M (n + 1) (numM (D ++ [pcl o]) (addF (cntF L) (pcl o) 1))) (hg : w.grownBy w' (some M)) : CntS w0 w' F Bx M (L ++ [o]) :=
  ⟨h.blk.grown hg (fun e => h.lo.2.2.1 (by cases e; rfl)), ⟨_, _, by rw [cntF_thing hk]; exact hm, by rw [cntF_thing hk]; exact addF_zero hz _ _⟩,
    h.below.grown hg h.lo.2.2.2 (fun k e => by cases e; exact h.lo.1), h.lo.1, h.lo.2.1, h.lo.2.2.1, Nat.le_trans h.lo.2.2.2 hg.size⟩
theorem CntS.pass {w0 w : World} {F Bx M : Nat} {L : List Int} {o : Int} (h : CntS w0 w F Bx M L) (hk : kd o ≠ 3) : CntS w0 w F Bx M (L ++ [o]) := by
  obtain ⟨n, D, hm, hz⟩ := h.map_
  exact ⟨h.blk, ⟨n, D, by rw [cntF_other hk]; exact hm, by rw [cntF_other hk]; exact hz⟩, h.below, h.lo⟩
theorem flat_le {f : Nat → List Int} {c : Nat} : ∀ (l : List Nat), (∀ p ∈ l, (f p).length ≤ c) → (l.flatMap f).length ≤ l.length * c
  | [], _ => by simp
  | p :: l, h => by
    have h1 := h p List.mem_cons_self
    have h2 := flat_le l (fun q hq => h q (List.mem_cons_of_mem _ hq))
    simp only [List.flatMap_cons, List.length_append, List.length_cons]
    rw [Nat.succ_mul]; omega
theorem holds_le {ws : List Int} (hok : OkH ws) {p : Nat} (hp : p ∈ places ws) : (holdsL ws p).length ≤ 2001 := by
  have hb := (places_mem hp).2.2
  have hl := slotsL_len hb
  have hn := not_bad hb
  have hm := hok.most
  have hs : slotsN ws p = (nth ws (p + 2) / 4).toNat := rfl
  unfold holdsL
  rw [List.length_cons]
  split
  · omega
  · simp
/-- How counts ends. -/
def CountEnd (ws rs : List Int) (w : World) (e : Ending) (w' : World) : Prop :=
  ∃ M n D, e = .returned (.map (some M)) ∧ MapI w' M n (numM D (cntF (allL ws rs))) ∧ (∀ q, q ∉ D → cntF (allL ws rs) q = 0) ∧ w.heap.size ≤ M ∧ Below w.heap.size w w'

set_option maxRecDepth 100000 in
set_option maxHeartbeats 4000000 in
theorem counts_any (ws rs : List Int) (g : Nat) (B : Option Addr) (d : Nat) (w : World) (hv : ViewAt w g ws) (hok : OkH ws) (hw : I64 ws) (hB : Ints w B rs) (hrl : rs.length ≤ 1000000) (hfit : ∀ o ∈ rs, fitsB ws o = true) :
    Calls Try.prog 108 #[.pointer (some ⟨g, 0, none⟩), .slice B rs.length d] w (CountEnd ws rs w) := by
  have hq2 : ws.length ≤ 2000 := hok.most
  have hmm := @run_makeMap Try.prog
  have hmf : ∀ (fn : Fn) (first cap : Array Value) (W : World), (Instr.makeFunc fn first cap).run Try.prog W = .ok (.func fn first cap) W := fun _ _ _ _ => rfl
  obtain ⟨b, o', c', M', A', oc, v0, -, v2, hg, hb, hcc, hrow, hord⟩ := hv.cells
  have hz1 : Hid ((w.alloc (.map #[] 0)).heap.size = w.heap.size + 1) := by show _ = _; simp
  have hx0 : Below w.heap.size w ((w.alloc (.map #[] 0)).alloc (.cells #[.map (some w.heap.size)] 110)) := ((Below.refl _ _).alloc (Nat.le_refl _) _).alloc (by simp) _
  have hcs : CntS w ((w.alloc (.map #[] 0)).alloc (.cells #[.map (some w.heap.size)] 110)) w.heap.size (w.heap.size + 1) w.heap.size [] := by
    refine ⟨?_, ⟨0, [], ?_, fun _ _ => rfl⟩, hx0, Nat.le_refl _, by omega, by omega, by simp; omega⟩
    · have := Blk.new (w.alloc (.map #[] 0)) 110 #[.map (some w.heap.size)]
      rwa [hz1.out] at this
    · rw [numM_nil]; exact (MapI.new w).alloc _
  have HCS := Lib.hid hcs
  have hvw : ∀ W, Below w.heap.size w W → ViewAt W g ws := fun W h => hv.below h
  have hrw : ∀ W, Below w.heap.size w W → Row W b o' ws ∧ b < W.heap.size := fun W h => ⟨hrow.below h hb, Nat.lt_of_lt_of_le hb h.size⟩
  have hcw : ∀ W, Below w.heap.size w W → W.cell? ⟨g, 0, none⟩ = some (.slice (some ⟨b, o', none⟩) ws.length c') := fun W h => (h.cell (p := ⟨g, 0, none⟩) hg).trans v0
  have hc2 : ∀ W, Below w.heap.size w W → W.cell? ⟨g, 2, none⟩ = some (.slice A' (places ws).length oc) := fun W h => (h.cell (p := ⟨g, 2, none⟩) hg).trans v2
  have hbw : ∀ W, Below w.heap.size w W → Ints W B rs := fun W h => hB.below h
  have how : ∀ W, Below w.heap.size w W → Ints W A' (ups (places ws)) := fun W h => hord.below h
  have hlp : (places ws).length ≤ ws.length := places_len ws
  have HVW := Lib.hid hvw; have HRW := Lib.hid hrw; have HCW := Lib.hid hcw; have HC2 := Lib.hid hc2; have HBW := Lib.hid hbw; have HOW := Lib.hid how
  have HOK := Lib.hid hok; have HW := Lib.hid hw; have HFIT := Lib.hid hfit
  clear hv hok hw hB hfit v0 v2 hrow hord hx0 hcs hvw hrw hcw hc2 hbw how
  go_enter Try.func108, Try.ntmps108
  go_wp2_with fail
  generalize ((w.alloc (.map #[] 0)).alloc (.cells #[.map (some w.heap.size)] 110)) = w1 at *
  clear hz1
  have hFB : w.heap.size < w.heap.size + 1 := Nat.lt_succ_self _
  generalize w.heap.size + 1 = Bx at *
  generalize hF : w.heap.size = F at *
  have HFE := Lib.hid hF; clear hF
  go_loopw [13] (fun i wr => ∃ j : Nat, i = .int .i64 j ∧ j ≤ rs.length ∧ CntS w wr F Bx F (rs.take j)) (fun i _ => rs.length - (intOf i).toNat)
  case atStart => exact ⟨0, rfl, Nat.zero_le _, HCS.out⟩
  case round =>
    obtain ⟨j, rfl, hj, hs⟩ := hrel
    have HS := Lib.hid hs
    by_cases hjl : j < rs.length
    · obtain ⟨b1, o1, rfl, -, r1⟩ := HBW.out _ HS.out.below (by omega)
      have e1 := r1 j hjl
      have hfj := HFIT.out (nth rs j) (by rw [nth_eq hjl]; exact List.getElem_mem _)
      obtain ⟨f1, f2⟩ := fits_bd hfj
      have hTK := Lib.hid (take_slot hjl)
      clear r1 hfj
      by_cases hk : kd (nth rs j) = 3
      · have hkb : (kd (nth rs j) == 3) = true := by simpa using hk
        obtain ⟨n, D, hm, hz⟩ := hs.map_
        obtain ⟨y1, y2, y3⟩ := hs.blk.f1
        obtain ⟨k0, k1, k2⟩ := (kd_three (nth rs j)).1 hk
        have hbd := cntF_bd (rs.take j) (pcl (nth rs j))
        have hlt := List.length_take_le j rs
        have e2 : nth rs j / 2 = ((pcl (nth rs j) : Nat) : Int) := by unfold pcl; omega
        have e3 : (nth rs j).tdiv 2 = ((pcl (nth rs j) : Nat) : Int) := by rw [Int.tdiv_eq_ediv_of_nonneg (by omega)]; exact e2
        have hpl : pcl (nth rs j) ≤ 5000 := by omega
        have hrun := hm.look (t := 110) (e := 3) Try.underlying110 (zero3 _) false ((pcl (nth rs j) : Nat) : Int) (by omega) (by omega)
        rw [numM_get D _ (pcl (nth rs j)) (hz _)] at hrun
        simp only [Bool.false_eq_true, if_false] at hrun
        have e5 : IntKind.i64.wrap ((pcl (nth rs j) : Nat) : Int) = ((pcl (nth rs j) : Nat) : Int) := IntWalk.i64_in _ (by omega)
        have HM := Lib.hid hm
        have HP := Lib.hid (numM_push D (cntF (rs.take j)) (pcl (nth rs j)) 1)
        have hmore : ∀ w', MapI w' F (n + 1) (numM (D ++ [pcl (nth rs j)]) (addF (cntF (rs.take j)) (pcl (nth rs j)) 1)) → wr.grownBy w' (some F) → CntS w w' F Bx F (rs.take j ++ [nth rs j]) := fun w' h1 h2 => hs.more hk hz h1 h2
        have HMO := Lib.hid hmore
        clear hs hm hz hk k0 hmore
        go_wp2_with (first
          | (go_at_call 31; refine (kind_any _ _ (by omega) (by omega)).mono ?_; rintro e w' ⟨rfl, rfl⟩)
          | (at_mapUpdate; refine wpList_store rfl _ _ _ 110 3 rfl Try.underlying110 HM.out rfl ((pcl (nth rs j) : Nat) : Int) rfl (.int .i64 (cntF (rs.take j) (pcl (nth rs j)) + 1)) rfl (by omega) (by omega) ?_; intro w5 hm5 hgr5; rw [HP.out] at hm5; have HS5 := Lib.hid (HMO.out w5 hm5 hgr5); clear hm5 hgr5))
        go_roundw
        case rel => exact ⟨j + 1, by go_num, by omega, by rw [hTK.out]; exact HS5.out⟩
        case measure => simp [intOf]; omega
      · have hkb : (kd (nth rs j) == 3) = false := by simpa using hk
        have HS5 := Lib.hid (hs.pass hk)
        clear hs hk
        go_wp2_with (go_at_call 31; refine (kind_any _ _ (by omega) (by omega)).mono ?_; rintro e w' ⟨rfl, rfl⟩)
        go_roundw
        case rel => exact ⟨j + 1, by go_num, by omega, by rw [hTK.out]; exact HS5.out⟩
        case measure => simp [intOf]; omega
    · obtain rfl : j = rs.length := by omega
      rw [List.take_length] at HS hs
      have hc := HC2.out _ hs.below
      clear hs HCS
      go_wp2_with fail
      clear hc
      go_loopw [31] (fun i wr => ∃ j : Nat, i = .int .i64 j ∧ j ≤ (places ws).length ∧ CntS w wr F Bx F (rs ++ ((places ws).take j).flatMap (holdsL ws))) (fun i _ => (places ws).length - (intOf i).toNat)
      case atStart => exact ⟨0, rfl, Nat.zero_le _, by rw [List.take_zero, List.flatMap_nil, List.append_nil]; exact HS.out⟩
      case round =>
        clear HS
        obtain ⟨j, rfl, hj, hs⟩ := hrel
        have HS := Lib.hid hs
        by_cases hjl : j < (places ws).length
        · obtain ⟨b1, o1, hA, -, r1⟩ := HOW.out _ HS.out.below (by rw [ups_len]; omega)
          subst hA
          have e1 := r1 j (by rw [ups_len]; exact hjl)
          rw [ups_nth hjl, getD_el hjl] at e1
          have hpm : (places ws)[j] ∈ places ws := List.getElem_mem hjl
          have HPM := Lib.hid hpm
          have hpb := places_mem hpm
          have hll : (rs ++ ((places ws).take j).flatMap (holdsL ws)).length ≤ 50000000 := by
            have h1 := flat_le (f := holdsL ws) (c := 2001) ((places ws).take j) (fun p hp => holds_le HOK.out (List.mem_of_mem_take hp))
            have h2 := List.length_take_le j (places ws)
            rw [List.length_append]; omega
          have hTK : (places ws).take (j + 1) = (places ws).take j ++ [(places ws)[j]] := List.take_succ_eq_append_getElem hjl
          have HTK := Lib.hid hTK
          have hllH := Lib.hid hll
          obtain ⟨y1, y2, y3⟩ := hs.blk.f1
          clear hs r1 hpm hTK
          generalize (places ws)[j] = p at *
          obtain ⟨p2, pl, -⟩ := hpb
          clear hll
          have HLL := hllH
          go_wp2_with fail
          refine (given_any ws g b o' c' w _ F Bx F _ p HS.out HLL.out HOK.out HW.out HPM.out HVW.out HRW.out HCW.out hcc).mono ?_
          rintro e w6 ⟨rfl, hs6⟩
          have HS6 := Lib.hid hs6
          clear hs6
          go_wp2_with fail
          go_roundw
          case rel =>
            refine ⟨j + 1, by go_num, by omega, ?_⟩
            have h9 := HS6.out
            rw [HTK.out, List.flatMap_append, ← List.append_assoc]
            simpa using h9
          case measure => simp [intOf]; omega
        · obtain rfl : j = (places ws).length := by omega
          obtain ⟨y1, y2, y3⟩ := hs.blk.f1
          rw [List.take_length] at HS
          obtain ⟨n, D, hm, hz⟩ := HS.out.map_
          have HM := Lib.hid hm; have HZ := Lib.hid hz
          clear hs hm hz
          go_wp2_with fail
          refine bodyPost_ret (v := .map (some F)) (by simp [results, Try.results108, go_sem]) rfl ⟨F, n, D, rfl, HM.out, HZ.out, by rw [HFE.out]; exact Nat.le_refl _, by rw [HFE.out]; exact HS.out.below⟩
end Go.Proofs.Ytjpppdacamhhfaa
