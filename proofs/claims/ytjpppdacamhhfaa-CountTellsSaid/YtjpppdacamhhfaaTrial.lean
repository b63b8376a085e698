/- count.Trial: who is held by nobody, or what is wrong. Conditions: the words are numbers of 64 bits. -/
import Derived.Test.YtjpppdacamhhfaaHold
import Derived.Test.YtjpppdacamhhfaaRng
import Derived.Test.YtjpppdacamhhfaaRCounts
import Derived.Laws.EntriesVeiled
namespace Go.Proofs.Ytjpppdacamhhfaa
open Go.RowKit
set_option linter.unusedVariables false

def trialF (ps : List Nat) (f : Nat → Bool) : List Int := (ps.filter fun p => !f p).map fun (p : Nat) => 2 * (p : Int)
def TrialTold (ws rs : List Int) (w : World) (e : Ending) (w' : World) : Prop :=
  ∃ xs, (((rootsF ws rs).1 ≠ 0 ∧ xs = []) ∨ ((rootsF ws rs).1 = 0 ∧ ∃ f, Tells ws rs f ∧ xs = trialF (places ws) f)) ∧ Below w.heap.size w w' ∧ ∃ A c, e = .returned (.tuple #[.slice A xs.length c, fltV (rootsF ws rs).1 (rootsF ws rs).2]) ∧ Own w' w.heap.size (.slice A xs.length c) xs
theorem trial_yes {ps : List Nat} {f : Nat → Bool} {p : Nat} (h : f p = true) : trialF (ps ++ [p]) f = trialF ps f := by unfold trialF; rw [List.filter_append]; simp [h]
theorem trial_no {ps : List Nat} {f : Nat → Bool} {p : Nat} (h : f p = false) : trialF (ps ++ [p]) f = trialF ps f ++ [2 * (p : Int)] := by unfold trialF; rw [List.filter_append]; simp [h]
theorem trial_len (ps : List Nat) (f : Nat → Bool) : (trialF ps f).length ≤ ps.length := by unfold trialF; rw [List.length_map]; exact List.length_filter_le _ _
theorem numM_some {D : List Nat} {f : Nat → Int} {k : Int} {v : Value} (h : numM D f k = some v) : ∃ p : Nat, k = p ∧ p ∈ D ∧ v = .int .i64 (f p) := by
  unfold numM at h
  split at h
  · rename_i hc
    exact ⟨k.toNat, by omega, hc.2, by cases h; rfl⟩
  · cases h
theorem numM_in {D : List Nat} {f : Nat → Int} {p : Nat} (h : p ∈ D) : numM D f (p : Int) = some (.int .i64 (f p)) := by unfold numM; rw [if_pos ⟨by omega, by simpa using h⟩]; simp

theorem HoldS.iter {w0 w w' : World} {F Bt Bv Bh M g r : Nat} {H : List Nat} (h : HoldS w0 F Bt Bv Bh M g H w) (hg : w.grownBy w' (some r)) (hF : F ≤ r) (h1 : Bt ≠ r) (h2 : Bv ≠ r) (h3 : Bh ≠ r) (h4 : M ≠ r) : HoldS w0 F Bt Bv Bh M g H w' := by
  obtain ⟨n, hm⟩ := h.map_
  exact ⟨h.bt.grown hg (fun e => h1 (by cases e; rfl)), h.bv.grown hg (fun e => h2 (by cases e; rfl)), h.bh.grown hg (fun e => h3 (by cases e; rfl)), ⟨n, hm.grown hg (fun e => h4 (by cases e; rfl))⟩,
    h.below.grown hg h.lo.2.1 (fun k e => by cases e; exact hF), h.lo.1, Nat.le_trans h.lo.2.1 hg.size, h.lo.2.2⟩
theorem HeldI.drop {ws rs : List Int} {H0 H : List Nat} {L : List Int} (h : HeldI ws rs H0 H L) : HeldI ws rs H0 H [] := ⟨h.nodup, h.sub, fun o ho => by simp at ho, h.closed, h.rch⟩

set_option maxRecDepth 100000 in
set_option maxHeartbeats 4000000 in
theorem trial_any (ws rs : List Int) (A B : Option Addr) (c d : Nat) (w : World) (hA : Ints w A ws) (hcap : ws.length ≤ c) (hw : I64 ws) (hl : ws.length ≤ 9223372036854775807)
    (hB : Ints w B rs) (hr : I64 rs) (hrl : rs.length ≤ 1000000) : Calls Try.prog 60 #[.agg #[.slice A ws.length c], .slice B rs.length d] w (TrialTold ws rs w) := by
  have hx0 : Below w.heap.size w ((w.alloc (.cells #[.slice A ws.length c] 33)).alloc (.cells #[.int .i64 0, .int .i64 0] 36)) := ((Below.refl _ _).alloc (Nat.le_refl _) _).alloc (by simp) _
  have hh0 : Blk ((w.alloc (.cells #[.slice A ws.length c] 33)).alloc (.cells #[.int .i64 0, .int .i64 0] 36)) w.heap.size 33 #[.slice A ws.length c] := (Blk.new _ _ _).alloc _
  have hr2 : Blk ((w.alloc (.cells #[.slice A ws.length c] 33)).alloc (.cells #[.int .i64 0, .int .i64 0] 36)) (w.heap.size + 1) 36 #[.int .i64 0, .int .i64 0] := by
    have := Blk.new (w.alloc (.cells #[.slice A ws.length c] 33)) 36 #[.int .i64 0, .int .i64 0]
    simpa using this
  have HX0 := Lib.hid hx0; have HH0 := Lib.hid hh0; have HR2 := Lib.hid hr2
  have HA := Lib.hid (hA.below hx0); have HB := Lib.hid (hB.below hx0)
  have HW := Lib.hid hw; have HRW := Lib.hid hr
  clear hx0 hh0 hr2 hA hB hw hr
  go_enter Try.func60, Try.ntmps60
  go_wp2_with fail
  generalize hw1 : ((w.alloc (.cells #[.slice A ws.length c] 33)).alloc (.cells #[.int .i64 0, .int .i64 0] 36)) = w1 at *
  clear hw1
  refine (rsee_any ws rs A B c d w1 HA.out hcap HW.out hl HB.out HRW.out (by omega)).mono ?_
  rintro e w2 ⟨hb2, h⟩
  have HL2 := Lib.hid (HX0.out.trans (hb2.mono HX0.out.size))
  have HR22 := Lib.hid (HR2.out.below hb2 HR2.out.lt)
  have HB2 := Lib.hid (HB.out.below hb2)
  have hRlt : w.heap.size + 1 < w2.heap.size := HR22.out.lt
  clear hb2
  obtain ⟨z1, z2, z3, z4, z5⟩ := HR22.out.f2
  rcases h with ⟨h0, rfl⟩ | ⟨h0, g, rfl, hv⟩
  · have h1 : ((rootsF ws rs).1 != 0) = true := by simpa using h0
    have HN := Lib.hid h0
    clear h0
    have hz3 : Hid ((w2.alloc (.cells #[.pointer none] 104)).heap.size = w2.heap.size + 1) := by show _ = _; simp
    have hf3 : Blk ((w2.alloc (.cells #[.pointer none] 104)).alloc (.cells #[.int .i64 (rootsF ws rs).1, .int .i64 (rootsF ws rs).2] 36)) (w2.heap.size + 1) 36 #[.int .i64 (rootsF ws rs).1, .int .i64 (rootsF ws rs).2] := by
      have := Blk.new (w2.alloc (.cells #[.pointer none] 104)) 36 #[.int .i64 (rootsF ws rs).1, .int .i64 (rootsF ws rs).2]
      rwa [hz3.out] at this
    have HF3 := Lib.hid hf3
    have HR3 := Lib.hid ((HR22.out.alloc (.cells #[.pointer none] 104)).alloc (.cells #[.int .i64 (rootsF ws rs).1, .int .i64 (rootsF ws rs).2] 36))
    have HL3 := Lib.hid ((HL2.out.alloc (by omega) (.cells #[.pointer none] 104)).alloc (by rw [hz3.out]; omega) (.cells #[.int .i64 (rootsF ws rs).1, .int .i64 (rootsF ws rs).2] 36))
    clear z1 z2 z3 z4 z5 hf3
    unfold seeV fltV
    go_wp2_with fail
    generalize ((w2.alloc (.cells #[.pointer none] 104)).alloc (.cells #[.int .i64 (rootsF ws rs).1, .int .i64 (rootsF ws rs).2] 36)) = w3 at *
    obtain ⟨z1, z2, z3, z4, z5⟩ := HR3.out.f2
    obtain ⟨y1, y2, y3, y4, y5⟩ := HF3.out.f2
    go_region
    all_goals (try go_wp2)
    all_goals
      refine bodyPost_ret (v := .tuple #[.slice none 0 0, fltV (rootsF ws rs).1 (rootsF ws rs).2]) (by simp [results, Try.results60, go_sem, fltV, z1, z2]) rfl ⟨[], .inl ⟨HN.out, rfl⟩, ?_, none, 0, rfl, Own.nil _ _⟩
      repeat (first | exact HL3.out | refine Below.drew ?_ | refine Below.setCell ?_ (by dsimp only; omega) _)
  · obtain ⟨hokh, -, -, hfit, hz⟩ := rootsF_zero h0
    have HV := Lib.hid hv; have HOK := Lib.hid hokh; have HFIT := Lib.hid hfit; have HZ := Lib.hid hz
    have hq2 : ws.length ≤ 2000 := hokh.most
    clear hv hokh hz h0 hfit
    have hz3 : Hid ((w2.alloc (.cells #[.pointer (some ⟨g, 0, none⟩)] 104)).heap.size = w2.heap.size + 1) := by show _ = _; simp
    have hx3 : Below w2.heap.size w2 ((w2.alloc (.cells #[.pointer (some ⟨g, 0, none⟩)] 104)).alloc (.cells #[.int .i64 0, .int .i64 0] 36)) := ((Below.refl _ _).alloc (Nat.le_refl _) _).alloc (by simp) _
    have hf3 : Blk ((w2.alloc (.cells #[.pointer (some ⟨g, 0, none⟩)] 104)).alloc (.cells #[.int .i64 0, .int .i64 0] 36)) (w2.heap.size + 1) 36 #[.int .i64 0, .int .i64 0] := by
      have := Blk.new (w2.alloc (.cells #[.pointer (some ⟨g, 0, none⟩)] 104)) 36 #[.int .i64 0, .int .i64 0]
      rwa [hz3.out] at this
    have HF3 := Lib.hid hf3
    have HBV := Lib.hid ((Blk.new w2 104 #[.pointer (some ⟨g, 0, none⟩)]).alloc (.cells #[.int .i64 0, .int .i64 0] 36))
    have HL3 := Lib.hid (HL2.out.trans (hx3.mono HL2.out.size))
    have HR23 := Lib.hid (HR22.out.below hx3 HR22.out.lt)
    have HB3 := Lib.hid (HB2.out.below hx3); have HV3 := Lib.hid (HV.out.below hx3)
    have hs3 : w2.heap.size + 1 < ((w2.alloc (.cells #[.pointer (some ⟨g, 0, none⟩)] 104)).alloc (.cells #[.int .i64 0, .int .i64 0] 36)).heap.size := by simp
    clear hx3 hf3 z1 z2 z3 z4 z5
    unfold fltV
    go_wp2_with fail
    generalize hw3 : ((w2.alloc (.cells #[.pointer (some ⟨g, 0, none⟩)] 104)).alloc (.cells #[.int .i64 0, .int .i64 0] 36)) = w3 at *
    clear hw3
    generalize hBv : w2.heap.size = Bv at *
    have HBVE := Lib.hid hBv; clear hBv
    refine (counts_any ws rs g B d w3 HV3.out HOK.out HW.out HB3.out hrl HFIT.out).mono ?_
    rintro e w4 ⟨M, n, D, rfl, hm, hz, hM, hb4⟩
    obtain ⟨b, o', c', Mq, A', oc, v0, -, v2, hg, hb, hcc, hrow, hord⟩ := HV3.out.cells
    generalize hF : w3.heap.size = F at *
    have hvw : ∀ W, Below F w3 W → ViewAt W g ws := fun W h => HV3.out.below (by rw [hF]; exact h)
    have hrw : ∀ W, Below F w3 W → Row W b o' ws ∧ b < W.heap.size := fun W h => ⟨hrow.below h hb, Nat.lt_of_lt_of_le (by rw [hF]; exact hb) h.size⟩
    have hcw : ∀ W, Below F w3 W → W.cell? ⟨g, 0, none⟩ = some (.slice (some ⟨b, o', none⟩) ws.length c') := fun W h => (h.cell (p := ⟨g, 0, none⟩) hg).trans v0
    have hc2 : ∀ W, Below F w3 W → W.cell? ⟨g, 2, none⟩ = some (.slice A' (places ws).length oc) := fun W h => (h.cell (p := ⟨g, 2, none⟩) hg).trans v2
    have how : ∀ W, Below F w3 W → Ints W A' (ups (places ws)) := fun W h => hord.below (by rw [hF]; exact h)
    have hbv : ∀ W, Below F w3 W → Blk W Bv 104 #[.pointer (some ⟨g, 0, none⟩)] := fun W h => HBV.out.below h (by omega)
    have HVW := Lib.hid hvw; have HRW := Lib.hid hrw; have HCW := Lib.hid hcw; have HC2 := Lib.hid hc2; have HOW := Lib.hid how; have HBVW := Lib.hid hbv
    have hM4 := hm.lt
    have h34 : F ≤ w4.heap.size := by have := hb4.size; omega
    have hlp : (places ws).length ≤ ws.length := places_len ws
    have hall : (allL ws rs).length ≤ 50000000 := all_le (l := []) HOK.out (by rw [List.append_nil]) hrl
    have HALL := Lib.hid hall
    have hb45 : Below F w3 (w4.alloc (.cells #[.map (some M)] 110)) := hb4.alloc h34 _
    have hcs : SubS (allL ws rs) w3 F w4.heap.size M [] (w4.alloc (.cells #[.map (some M)] 110)) := by
      refine ⟨Blk.new _ _ _, ⟨n, D, ?_, fun q hq => by rw [subF_nil]; exact hz q hq⟩, hb45, hM, h34, by omega, by simp; omega⟩
      rw [subF_nil]; exact hm.alloc _
    have HCS := Lib.hid hcs
    clear hvw hrw hcw hc2 how hbv hm hz hb4 hb45 hcs v0 v2 hrow hord HBV HV HV3 HB2 HB3 hall
    obtain ⟨y1, y2, y3⟩ := (HBVW.out _ HCS.out.below).f1
    have y5 := HC2.out _ HCS.out.below
    have hsz5 : w4.heap.size + 1 = (w4.alloc (.cells #[.map (some M)] 110)).heap.size := by simp
    go_wp2_with fail
    clear y1 y2 y3 y5
    generalize hBx : w4.heap.size = Bx at *
    have HBX := Lib.hid hBx
    have hBVW9 : Bv < F := by omega
    clear hBx
    generalize (w4.alloc (.cells #[.map (some M)] 110)) = w5 at *
    have hmf : ∀ (fn : Fn) (first cap : Array Value) (W : World), (Instr.makeFunc fn first cap).run Try.prog W = .ok (.func fn first cap) W := fun _ _ _ _ => rfl
    have hmm := @run_makeMap Try.prog
    go_loopw [38] (fun i wr => ∃ j : Nat, i = .int .i64 j ∧ j ≤ (places ws).length ∧ SubS (allL ws rs) w3 F Bx M (((places ws).take j).flatMap (holdsL ws)) wr) (fun i _ => (places ws).length - (intOf i).toNat)
    case atStart => exact ⟨0, rfl, Nat.zero_le _, by rw [List.take_zero, List.flatMap_nil]; exact HCS.out⟩
    case round =>
      clear HCS
      obtain ⟨j, rfl, hj, hs⟩ := hrel
      have HS := Lib.hid hs
      have hMlr : M < wr.heap.size := by obtain ⟨n, D, hm, _⟩ := hs.map_; exact hm.lt
      by_cases hjl : j < (places ws).length
      · obtain ⟨b1, o1, hA, -, r1⟩ := HOW.out _ HS.out.below (by rw [ups_len]; omega)
        subst hA
        have e1 := r1 j (by rw [ups_len]; exact hjl)
        rw [ups_nth hjl, getD_el hjl] at e1
        have hpm : (places ws)[j] ∈ places ws := List.getElem_mem hjl
        have HPM := Lib.hid hpm
        have hpb := places_mem hpm
        have hll : (((places ws).take j).flatMap (holdsL ws)).length ≤ 50000000 := by
          have h1 := flat_le (f := holdsL ws) (c := 2001) ((places ws).take j) (fun p hp => holds_le HOK.out (List.mem_of_mem_take hp))
          have h2 := List.length_take_le j (places ws)
          omega
        have hTK : (places ws).take (j + 1) = (places ws).take j ++ [(places ws)[j]] := List.take_succ_eq_append_getElem hjl
        have HTK := Lib.hid hTK
        have HLL := Lib.hid hll
        obtain ⟨y1, y2, y3⟩ := hs.blk.f1
        obtain ⟨u1, u2, u3⟩ := (HBVW.out _ hs.below).f1
        clear hs r1 hpm hTK hll
        generalize (places ws)[j] = p at *
        obtain ⟨p2, pl, -⟩ := hpb
        go_wp2_with fail
        refine (given_gen ws g b o' c' w3 _ F M 110 #[.pointer (some ⟨Bx, 0, none⟩)] (SubS (allL ws rs) w3 F Bx M) _ p HS.out HLL.out HOK.out HW.out HPM.out HVW.out HRW.out HCW.out hcc hMlr (fun L W h => h.below) (fun L W W' h hb => h.turn hb)
          (fun Bf L x W h hB _ hx hfx hLx => tellm_any ws (allL ws rs) w3 W F Bx M Bf L x h hB hLx (by have := HALL.out; omega) hfx)).mono ?_
        rintro e w6 ⟨rfl, hs6, -⟩
        have HS6 := Lib.hid hs6
        clear hs6
        go_wp2_with fail
        go_roundw
        case rel =>
          refine ⟨j + 1, by go_num, by omega, ?_⟩
          have h9 := HS6.out
          rw [HTK.out, List.flatMap_append]
          simpa using h9
        case measure => simp [intOf]; omega
      · obtain rfl : j = (places ws).length := by omega
        rw [List.take_length] at HS
        obtain ⟨n, D, hm, hz⟩ := HS.out.map_
        have hsub : subF (allL ws rs) ((places ws).flatMap (holdsL ws)) = cntF rs := subF_all rs _
        rw [hsub] at hm hz
        have HM := Lib.hid hm; have HZM := Lib.hid hz
        have hbw := HS.out.below
        have hFw := HS.out.lo.2.2.2
        have hBw := HS.out.blk
        have hBxM := HS.out.lo.2.2.1
        clear hs hm hz hsub
        have hz6 : (wr.alloc (.map #[] 0)).heap.size = wr.heap.size + 1 := by simp
        have hz7 : ((wr.alloc (.map #[] 0)).alloc (.cells #[.map (some wr.heap.size)] 127)).heap.size = wr.heap.size + 1 + 1 := by simp
        have hbh := Blk.new ((wr.alloc (.map #[] 0)).alloc (.cells #[.map (some wr.heap.size)] 127)) 126 #[.nilFunc]
        rw [hz7] at hbh
        have hbl := Blk.new ((wr.alloc (.map #[] 0)).alloc (.cells #[.map (some wr.heap.size)] 127)) 126 #[holdV (wr.heap.size + 1) Bv (wr.heap.size + 1 + 1)]
        rw [hz7] at hbl
        have hbt := (Blk.new (wr.alloc (.map #[] 0)) 127 #[.map (some wr.heap.size)]).alloc (.cells #[holdV (wr.heap.size + 1) Bv (wr.heap.size + 1 + 1)] 126)
        rw [hz6] at hbt
        have hmn := ((MapI.new wr).alloc (.cells #[.map (some wr.heap.size)] 127)).alloc (.cells #[holdV (wr.heap.size + 1) Bv (wr.heap.size + 1 + 1)] 126)
        rw [← seenM_nil] at hmn
        have hbe : Below wr.heap.size wr (((wr.alloc (.map #[] 0)).alloc (.cells #[.map (some wr.heap.size)] 127)).alloc (.cells #[holdV (wr.heap.size + 1) Bv (wr.heap.size + 1 + 1)] 126)) := (((Below.refl _ _).alloc (Nat.le_refl _) _).alloc (by omega) _).alloc (by omega) _
        have HHS : Hid (HoldS w3 F (wr.heap.size + 1) Bv (wr.heap.size + 1 + 1) wr.heap.size g [] (((wr.alloc (.map #[] 0)).alloc (.cells #[.map (some wr.heap.size)] 127)).alloc (.cells #[holdV (wr.heap.size + 1) Bv (wr.heap.size + 1 + 1)] 126))) :=
          ⟨hbt, HBVW.out _ (hbw.trans (hbe.mono hFw)), hbl, ⟨0, hmn⟩, hbw.trans (hbe.mono hFw), hFw, Nat.le_trans hFw hbe.size, by omega, by have := hBVW9; omega, by omega⟩
        have HM8 := Lib.hid (HM.out.below hbe HM.out.lt)
        have HBE := Lib.hid hbe
        obtain ⟨t1, t2, t3⟩ := hbh.f1
        obtain ⟨s1, s2, s3⟩ := hBw.f1
        obtain ⟨s4, s5, s6⟩ := (hBw.below hbe hBw.lt).f1
        clear hbt hmn hbe hbh hbl hz6 hz7
        go_wp2_with (at_range; refine wpList_rangeI rfl _ 110 3 rfl Try.underlying110 rfl HM8.out ?_; intro w8 hrg hb8 hs8; have HRG8 := Lib.hid hrg; have HB8 := Lib.hid hb8; clear hrg hb8)
        go_frame
        clear t1 t2 t3 s1 s2 s3 s4 s5 s6 hmm hmf
        have hMr := HM.out.lt
        generalize hMh : wr.heap.size = Mh at *
        generalize (((wr.alloc (.map #[] 0)).alloc (.cells #[.map (some Mh)] 127)).alloc (.cells #[holdV (Mh + 1) Bv (Mh + 1 + 1)] 126)) = w7 at *
        have hr7 : Mh + 1 + 1 < w7.heap.size := HHS.out.bh.lt
        have HHS8 := Lib.hid (HHS.out.turn HB8.out)
        have HMHE := Lib.hid hMh
        clear hMh
        generalize w7.heap.size = r at *
        go_loopw [13] (fun _ wr => ∃ (H : List Nat) (done : List Int), HoldS w3 F (Mh + 1) Bv (Mh + 1 + 1) Mh g H wr ∧ HeldI ws rs [] H [] ∧ RangI wr M r (numM D (cntF rs)) done ∧ (∀ p : Nat, (p : Int) ∈ done → 0 < cntF rs p → p ∈ H)) (fun _ wr => wr.rangeLeft M r)
        case atStart => exact ⟨[], [], HHS8.out, HeldI.start (by simp) (by simp), HRG8.out, by simp⟩
        case round =>
          obtain ⟨H, done, hs, hi, hrg, hdn⟩ := hrel
          have HS9 := Lib.hid hs; have HI9 := Lib.hid hi; have HRG9 := Lib.hid hrg; have HDN := Lib.hid hdn
          clear hs hi hrg hdn HHS8 HRG8
          go_wp2_with (at_next; refine wpList_nextI rfl _ rfl rfl HRG9.out ?_ ?_)
          · intro hdone
            have hroots : ∀ o ∈ rs, kd o = 3 → pcl o ∈ H := fun o ho hk => by
              have h1 : 0 < cntF rs (pcl o) := cntF_pos.2 ⟨o, ho, hk, rfl⟩
              have h2 : pcl o ∈ D := Classical.byContradiction fun e => by have := HZM.out _ e; omega
              exact HDN.out _ (hdone _ _ (numM_in h2)) h1
            have hall := HI9.out.all hroots
            have hT : Tells ws rs (fun p => decide (p ∈ H)) := fun p => by rw [decide_eq_true_eq]; exact hall p
            have HT := Lib.hid hT
            have hbl := HS9.out.below
            have hFl := HS9.out.lo.2.1
            obtain ⟨nM, hmM⟩ := HS9.out.map_
            have hBT := HS9.out.bt
            obtain ⟨y1, y2, y3⟩ := (HBVW.out _ hbl).f1
            have y5 := HC2.out _ hbl
            clear hdone hroots hall hT HDN HI9 HRG9
            obtain ⟨wl, rfl⟩ : ∃ x, x = wr := ⟨_, rfl⟩
            have HMM := Lib.hid hmM; have HBT := Lib.hid hBT; have HBL := Lib.hid hbl
            have HIN := Lib.hid (HOW.out _ hbl)
            clear hmM hBT hbl HS9
            have hfe : ∀ p, (fun p => decide (p ∈ H)) p = decide (p ∈ H) := fun _ => rfl
            have HFE := Lib.hid hfe
            clear hfe
            generalize hfd : (fun p => decide (p ∈ H)) = f at *
            clear hfd
            have hz := zeroU
            go_wp2_with fail
            clear y1 y2 y3 y5
            go_loopw [15, 67] (fun v i u => ∃ j : Nat, i = .int .i64 j ∧ j ≤ (places ws).length ∧ Below wl.heap.size wl u ∧ Own u wl.heap.size v (trialF ((places ws).take j) f)) (fun _ i _ => (places ws).length - (intOf i).toNat)
            case atStart => exact ⟨0, rfl, Nat.zero_le _, Below.refl _ _, Own.nil _ _⟩
            case round =>
              obtain ⟨j, rfl, hj, hb5, hown5⟩ := hrel
              have HB5 := Lib.hid hb5; have HO5 := Lib.hid hown5
              have hws : wl.heap.size ≤ wr.heap.size := hb5.size
              clear hb5 hown5
              by_cases hjl : j < (places ws).length
              · obtain ⟨b1, o1, hA, hblt, r1⟩ := HIN.out (by rw [ups_len]; omega)
                subst hA
                have e1 := (r1.below HB5.out hblt) j (by rw [ups_len]; exact hjl)
                rw [ups_nth hjl, getD_el hjl] at e1
                have hpb := places_mem (List.getElem_mem hjl)
                have hTK : (places ws).take (j + 1) = (places ws).take j ++ [(places ws)[j]] := List.take_succ_eq_append_getElem hjl
                have HTK := Lib.hid hTK
                have hly : (trialF ((places ws).take j) f).length ≤ 1000000000 := by
                  have h1 := trial_len ((places ws).take j) f
                  have h2 := List.length_take_le j (places ws)
                  omega
                have HLY := Lib.hid hly
                clear r1 hTK hly
                generalize (places ws)[j] = p at *
                obtain ⟨p2, pl, -⟩ := hpb
                have hrun := (HMM.out.below HB5.out HMM.out.lt).look (t := 127) (e := 128) Try.underlying127 (zeroU _) true (p : Int) (by omega) (by omega)
                rw [seenM_at, seenM_get, ← HFE.out p] at hrun
                simp only [if_true] at hrun
                obtain ⟨t1, t2, t3⟩ := (HBT.out.below HB5.out HBT.out.lt).f1
                cases hfp : f p
                · have HFP : Hid (trialF ((places ws).take j ++ [p]) f = trialF ((places ws).take j) f ++ [2 * (p : Int)]) := trial_no hfp
                  rw [hfp] at hrun
                  have hz6 : wl.heap.size ≤ ((wr.alloc (.cells #[] 128)).alloc (.cells #[.int .i64 (2 * (p : Int))] 3)).heap.size := by rw [World.size_alloc, World.size_alloc]; omega
                  have hcn := cell_new (wr.alloc (.cells #[] 128)) #[.int .i64 (2 * (p : Int))] 3 (0, 0) 0
                  rw [World.size_alloc] at hcn
                  have HCN := Lib.hid hcn
                  clear hfp hcn
                  go_wp2_with (at_builtin; refine wpList_pushN rfl _ _ rfl wl.heap.size _ (trialF ((places ws).take j) f) rfl ((HO5.out.alloc _).alloc _) (wr.heap.size + 1) 1 (2 * (p : Int)) rfl HCN.out HLY.out hz6 ?_; intro g6 n6 cap6 w6 hown6 hg6 hgr6; have HO6 := Lib.hid hown6; have HB6 := Lib.hid (((HB5.out.alloc hws _).alloc (by rw [World.size_alloc]; omega) _).grown hgr6 hz6 (fun q hq => (HO5.out.lt q hq).1)); clear hown6 hgr6)
                  go_roundw
                  case rel => exact ⟨j + 1, by go_num, by omega, HB6.out, by rw [HTK.out, HFP.out]; exact HO6.out⟩
                  case measure => simp [intOf]; omega
                · have HFP : Hid (trialF ((places ws).take j ++ [p]) f = trialF ((places ws).take j) f) := trial_yes hfp
                  rw [hfp] at hrun
                  clear hfp
                  go_wp2_with fail
                  go_roundw
                  case rel => exact ⟨j + 1, by go_num, by omega, HB5.out.alloc hws _, by rw [HTK.out, HFP.out]; exact HO5.out.alloc _⟩
                  case measure => simp [intOf]; omega
              · obtain rfl : j = (places ws).length := by omega
                have hO5 := HO5.out
                rw [List.take_length] at hO5
                obtain ⟨A5, c5, rfl, -⟩ := hO5.form2
                have hbf := HBL.out.trans (HB5.out.mono hFl)
                have h5 : Below w3.heap.size w3 wr := by rw [hF]; exact hbf
                have hlt1 : w.heap.size + 1 < w3.heap.size := HR23.out.lt
                obtain ⟨z1, z2, z3, z4, z5⟩ := (HR23.out.below h5 HR23.out.lt).f2
                obtain ⟨r1, r2, r3, r4, r5⟩ := (HF3.out.below h5 HF3.out.lt).f2
                have HO6 := Lib.hid hO5
                have HL5 := Lib.hid (HL3.out.trans (h5.mono HL3.out.size))
                have hl1 : w.heap.size + 1 < wl.heap.size := by omega
                clear hO5 hbf h5
                go_wp2_with fail
                go_region
                all_goals (try go_wp2)
                all_goals
                  refine bodyPost_ret (v := .tuple #[.slice A5 (trialF (places ws) f).length c5, fltV 0 0]) (by simp [results, Try.results60, go_sem, fltV, z1, z2]) rfl ⟨trialF (places ws) f, .inr ⟨by rw [HZ.out], f, HT.out, rfl⟩, ?_, A5, c5, by rw [HZ.out], ?_⟩
                  · repeat (first | exact HL5.out | refine Below.drew ?_ | refine Below.setCell ?_ (by dsimp only; omega) _ | refine Below.alloc ?_ (by simp; omega) _)
                  · have hoo := HO6.out.mono (show w.heap.size ≤ wl.heap.size by omega)
                    repeat (first | exact hoo | refine Own.setCell ?_ _ (fun e => by have := (HO6.out.lt _ e).1; dsimp only at this; omega) _ | refine Own.alloc ?_ _ | refine Own.drewN ?_ 1)
          · intro k v w9 hkv hwf hrg9 hlt hg9 hs9 hen
            obtain ⟨p, rfl, hpD, rfl⟩ := numM_some hkv
            have hbd := cntF_bd rs p
            have hS9 := HS9.out.iter hg9 (by omega) (by omega) (by omega) (by omega) (by omega)
            have HS10 := Lib.hid hS9
            have HRG10 := Lib.hid hrg9
            have hrl := hrg9.lt
            obtain ⟨y1, y2, y3⟩ := hS9.bh.f1
            by_cases hpos : 0 < cntF rs p
            · obtain ⟨o0, ho0, hk0, hp0⟩ := cntF_pos.1 hpos
              have hro : Rch ws rs p := by rw [← hp0]; exact .root o0 ho0 hk0
              obtain ⟨q1, q2, q3⟩ := (kd_three o0).1 hk0
              have hpp : 2 ≤ p ∧ p ≤ 1999 := by rw [← hp0]; unfold pcl; omega
              obtain ⟨hp2, hp3⟩ := hpp
              have hcall := hold_any ws rs g b o' c' w3 F (Mh + 1) Bv (Mh + 1 + 1) Mh HOK.out HW.out HFIT.out HVW.out HRW.out HCW.out hcc (places ws).length H (2 * (p : Int)) w9 (by omega) hS9 HI9.out.nodup HI9.out.rch (kd_dbl hp2 hp3) (by rw [pcl_dbl]; exact hro)
              have HCALL := Lib.hid hcall
              have HDN2 : Hid (∀ q : Nat, (q : Int) ∈ done ++ [(p : Int)] → 0 < cntF rs q → q ∈ H ∨ q = p) := fun q hq h => by
                rcases List.mem_append.1 hq with hq | hq
                · exact .inl (HDN.out q hq h)
                · rw [List.mem_singleton] at hq; exact .inr (by omega)
              clear hkv hwf hrg9 hg9 hS9 hcall hro ho0 hk0 hp0 HDN q1 q2 q3 o0
              generalize cntF rs p = x at *
              go_wp2_with (go_at_call 111; refine HCALL.out.mono ?_; rintro e w10 ⟨rfl, hh10, ht10⟩; have HH10 := Lib.hid hh10; have HT10 := Lib.hid ht10; clear hh10 ht10)
              obtain ⟨H', h1, h2⟩ := HH10.out
              obtain ⟨k1, k2⟩ := HRG10.out.kept (HT10.out.block M hrl.1 (by omega)) (HT10.out.block r hrl.2 (by omega))
              go_roundw
              case rel =>
                refine ⟨H', done ++ [(p : Int)], h1, (HI9.out.step h2).drop, k1, fun q hq h => ?_⟩
                rcases HDN2.out q hq h with h | h
                · exact h2.sub q h
                · have := h2.hit _ (List.mem_singleton.2 rfl) (kd_dbl hp2 hp3)
                  rw [pcl_dbl] at this
                  rw [h]; exact this
              case measure => rw [k2]; exact hlt
            · have HDN2 : Hid (∀ q : Nat, (q : Int) ∈ done ++ [(p : Int)] → 0 < cntF rs q → q ∈ H) := fun q hq h => by
                rcases List.mem_append.1 hq with hq | hq
                · exact HDN.out q hq h
                · rw [List.mem_singleton] at hq
                  obtain rfl : q = p := by omega
                  exact absurd h hpos
              clear hkv hwf hrg9 hg9 hS9 HDN
              generalize cntF rs p = x at *
              go_wp2_with fail
              go_roundw
              case rel => exact ⟨H, done ++ [(p : Int)], HS10.out, HI9.out, HRG10.out, HDN2.out⟩
              case measure => exact hlt
end Go.Proofs.Ytjpppdacamhhfaa
