/- become.One and become.Two compute the plain function. Conditions: numbers of 64 bits. -/
import Derived.Test.YtjpppdacamhhfaaExch
namespace Go.Proofs.Ytjpppdacamhhfaa
open Go.RowKit
set_option linter.unusedVariables false

/-- What is wrong; what becomes. -/
def becF (ws rs fr ot : List Int) (both : Bool) : Int × Nat := if (rootsF ws rs).1 = 0 then wrongF ws fr ot both else rootsF ws rs
def becR (ws rs fr ot : List Int) (both : Bool) : List Int × List Int := if (becF ws rs fr ot both).1 = 0 then (exchF (other fr ot both) ws (places ws), rs.map (other fr ot both)) else ([], [])
def DoneOut (f : Int × Nat) (r : List Int × List Int) (w : World) (e : Ending) (w' : World) : Prop :=
  Below w.heap.size w w' ∧ ∃ A c B d, e = .returned (.tuple #[.agg #[.slice A r.1.length c], .slice B r.2.length d, fltV f.1 f.2]) ∧ Own w' w.heap.size (.slice A r.1.length c) r.1 ∧ Own w' w.heap.size (.slice B r.2.length d) r.2
theorem becR_err {ws rs fr ot : List Int} {both : Bool} (h : (becF ws rs fr ot both).1 ≠ 0) : becR ws rs fr ot both = ([], []) := by unfold becR; rw [if_neg h]
theorem doneOut_err {w w' : World} (f : Int × Nat) (hb : Below w.heap.size w w') : DoneOut f ([], []) w (.returned (.tuple #[.agg #[.slice none 0 0], .slice none 0 0, fltV f.1 f.2])) w' :=
  ⟨hb, none, 0, none, 0, rfl, Own.nil _ _, Own.nil _ _⟩
/-- The map of who becomes who, while the first j pairs are known. -/
def NowIs (fr ot : List Int) (both : Bool) (j : Nat) (f : Int → Option Value) : Prop := ∀ o, (Named fr ot both j o → f o = some (.int .i64 (other fr ot both o))) ∧ (¬ Named fr ot both j o → f o = none)
theorem NowIs.turns {fr ot : List Int} {both : Bool} {f : Int → Option Value} (h : NowIs fr ot both fr.length f) : Turns f (other fr ot both) := fun o => by
  by_cases hn : Named fr ot both fr.length o
  · exact .inl ((h o).1 hn)
  · exact .inr ⟨(h o).2 hn, other_none hn⟩
theorem NowIs.one {fr ot : List Int} {j : Nat} {f : Int → Option Value} (h : NowIs fr ot false j f) (hj : j < fr.length) (ht : ¬ Twice fr ot false j) : NowIs fr ot false (j + 1) (put f (nth fr j) (.int .i64 (nth ot j))) := fun o => by
  have hn : ¬ Named fr ot false j (nth fr j) := fun e => ht (.inl e)
  rw [named_succ]
  by_cases e : o = nth fr j
  · subst e
    exact ⟨fun _ => by rw [put_same, other_from hj hn], fun hq => absurd (.inr (.inl rfl)) hq⟩
  · rw [put_other f _ e]
    exact ⟨fun hq => (h o).1 (hq.resolve_right (fun h' => by rcases h' with h' | ⟨h', _⟩; exact e h'.symm; cases h')), fun hq => (h o).2 (fun hp => hq (.inl hp))⟩
theorem NowIs.two {fr ot : List Int} {j : Nat} {f : Int → Option Value} (h : NowIs fr ot true j f) (hj : j < fr.length) (ht : ¬ Twice fr ot true j) :
    NowIs fr ot true (j + 1) (put (put f (nth fr j) (.int .i64 (nth ot j))) (nth ot j) (.int .i64 (nth fr j))) := fun o => by
  have hn : ¬ Named fr ot true j (nth fr j) := fun e => ht (.inl e)
  have hne : nth fr j ≠ nth ot j := fun e => ht (.inr ⟨rfl, .inl e⟩)
  have hn2 : ¬ Named fr ot true j (nth ot j) := fun e => ht (.inr ⟨rfl, .inr e⟩)
  rw [named_succ]
  by_cases e2 : o = nth ot j
  · subst e2
    exact ⟨fun _ => by rw [put_same, other_to hj hn2 hne], fun hq => absurd (.inr (.inr ⟨rfl, rfl⟩)) hq⟩
  · rw [put_other _ _ e2]
    by_cases e : o = nth fr j
    · subst e
      exact ⟨fun _ => by rw [put_same, other_from hj hn], fun hq => absurd (.inr (.inl rfl)) hq⟩
    · rw [put_other f _ e]
      exact ⟨fun hq => (h o).1 (hq.resolve_right (fun h' => by rcases h' with h' | ⟨_, h'⟩; exact e h'.symm; exact e2 h'.symm)), fun hq => (h o).2 (fun hp => hq (.inl hp))⟩
theorem other_bd {fr ot : List Int} (hf : I64 fr) (hto : I64 ot) (both : Bool) (o : Int) (h1 : -9223372036854775808 ≤ o) (h2 : o ≤ 9223372036854775807) : -9223372036854775808 ≤ other fr ot both o ∧ other fr ot both o ≤ 9223372036854775807 := by
  unfold other
  suffices H : ∀ n i, -9223372036854775808 ≤ otherF fr ot both o n i ∧ otherF fr ot both o n i ≤ 9223372036854775807 from H _ _
  intro n
  induction n with
  | zero => intro i; exact ⟨h1, h2⟩
  | succ n ih =>
    intro i
    unfold otherF
    split
    · exact hto i
    · split
      · exact hf i
      · exact ih (i + 1)

theorem wrongF_zero {ws fr ot : List Int} {both : Bool} (h : (wrongF ws fr ot both).1 = 0) : fr.length = ot.length ∧ btFrom fr ot both 0 = none ∧ wrongF ws fr ot both = (0, 0) := by
  unfold wrongF at h
  split at h
  · cases h
  · rename_i h1
    have h1' : fr.length = ot.length := Classical.byContradiction h1
    split at h
    · cases h
    · rename_i h2
      split at h
      · cases h
      · rename_i h3
        exact ⟨h1', h3, wrongF_ok h1' h2 h3⟩

section
variable (ws rs fr ot : List Int) (A B C D : Option Addr) (c d c' d' : Nat) (both : Bool) (w : World) (hA : Ints w A ws) (hcap : ws.length ≤ c) (hw : I64 ws) (hl : ws.length ≤ 9223372036854775807)
    (hB : Ints w B rs) (hr : I64 rs) (hrl : rs.length ≤ 1000000) (hC : Ints w C fr) (hfr : I64 fr) (hfl : fr.length ≤ 1000000) (hD : Ints w D ot) (hot : I64 ot)
include hA hcap hw hl hB hr hrl hC hfr hfl hD hot

set_option maxRecDepth 100000 in
set_option maxHeartbeats 4000000 in
theorem done_any : Calls Try.prog 119 #[.agg #[.slice A ws.length c], .slice C fr.length c', .slice D ot.length d', .slice B rs.length d, .bool both] w (DoneOut (becF ws rs fr ot both) (becR ws rs fr ot both) w) := by
  have hx0 : Below w.heap.size w (((w.alloc (.cells #[.slice A ws.length c] 33)).alloc (.cells #[.slice none 0 0] 33)).alloc (.cells #[.int .i64 0, .int .i64 0] 36)) := (((Below.refl _ _).alloc (Nat.le_refl _) _).alloc (by simp) _).alloc (by simp; omega) _
  have hr1 : Blk (((w.alloc (.cells #[.slice A ws.length c] 33)).alloc (.cells #[.slice none 0 0] 33)).alloc (.cells #[.int .i64 0, .int .i64 0] 36)) (w.heap.size + 1) 33 #[.slice none 0 0] := by
    have := Blk.new (w.alloc (.cells #[.slice A ws.length c] 33)) 33 #[.slice none 0 0]
    exact Blk.alloc (by simpa using this) _
  have hr2 : Blk (((w.alloc (.cells #[.slice A ws.length c] 33)).alloc (.cells #[.slice none 0 0] 33)).alloc (.cells #[.int .i64 0, .int .i64 0] 36)) (w.heap.size + 1 + 1) 36 #[.int .i64 0, .int .i64 0] := by
    have := Blk.new ((w.alloc (.cells #[.slice A ws.length c] 33)).alloc (.cells #[.slice none 0 0] 33)) 36 #[.int .i64 0, .int .i64 0]
    simpa using this
  have HX0 := Lib.hid hx0; have HR1 := Lib.hid hr1; have HR2 := Lib.hid hr2
  have HA := Lib.hid (hA.below hx0); have HB := Lib.hid (hB.below hx0); have HC := Lib.hid (hC.below hx0); have HD := Lib.hid (hD.below hx0)
  have HW := Lib.hid hw; have HRW := Lib.hid hr; have HFR := Lib.hid hfr; have HOT := Lib.hid hot
  clear hx0 hr1 hr2 hA hB hC hD hw hr hfr hot
  have hmm := @run_makeMap Try.prog
  go_enter Try.func119, Try.ntmps119
  go_wp2_with fail
  generalize hw1 : (((w.alloc (.cells #[.slice A ws.length c] 33)).alloc (.cells #[.slice none 0 0] 33)).alloc (.cells #[.int .i64 0, .int .i64 0] 36)) = w1 at *
  clear hw1
  refine (rsee_any ws rs A B c d w1 HA.out hcap HW.out hl HB.out HRW.out (by omega)).mono ?_
  rintro e w2 ⟨hb2, h⟩
  have HL2 := Lib.hid (HX0.out.trans (hb2.mono HX0.out.size))
  have HR12 := Lib.hid (HR1.out.below hb2 HR1.out.lt)
  have HR22 := Lib.hid (HR2.out.below hb2 HR2.out.lt)
  have HB2 := Lib.hid (HB.out.below hb2)
  have HC2 := Lib.hid (HC.out.below hb2)
  have HD2 := Lib.hid (HD.out.below hb2)
  have hRlt : w.heap.size + 1 + 1 < w2.heap.size := HR22.out.lt
  clear hb2
  obtain ⟨y1, y2, y3⟩ := HR12.out.f1
  obtain ⟨z1, z2, z3, z4, z5⟩ := HR22.out.f2
  rcases h with ⟨h0, rfl⟩ | ⟨h0, g, rfl, hv⟩
  · have hF : becF ws rs fr ot both = rootsF ws rs := by unfold becF; rw [if_neg h0]
    have h1 : ((rootsF ws rs).1 != 0) = true := by simpa using h0
    have h2 : ((rootsF ws rs).1 == 0) = false := by simpa using h0
    have HFE := Lib.hid hF
    have HRE := Lib.hid (becR_err (ws := ws) (rs := rs) (fr := fr) (ot := ot) (both := both) (by rw [hF]; exact h0))
    clear hF h0
    unfold seeV fltV
    go_wp2_with fail
    go_region
    all_goals (try go_wp2)
    all_goals
      rw [HRE.out, HFE.out]
      refine bodyPost_ret (v := .tuple #[.agg #[.slice none 0 0], .slice none 0 0, fltV (rootsF ws rs).1 (rootsF ws rs).2]) (by simp [results, Try.results119, go_sem, fltV, y1, y3, z1, z2, z5]) rfl (doneOut_err _ ?_)
      repeat (first | exact HL2.out | refine Below.drew ?_ | refine Below.setCell ?_ (by dsimp only; omega) _ | refine Below.alloc ?_ (by simp; omega) _)
  · obtain ⟨hokh, hokb, _, _, hz⟩ := rootsF_zero h0
    have HV := Lib.hid hv
    have HOK := Lib.hid hokh
    have hF : becF ws rs fr ot both = wrongF ws fr ot both := by unfold becF; rw [if_pos h0]
    have HF := Lib.hid hF
    clear hv hokh hokb hz h0 hF
    unfold fltV
    go_wp2_with fail
    have hx3 : Below w2.heap.size w2 (w2.alloc (.cells #[.int .i64 0, .int .i64 0] 36)) := (Below.refl _ _).alloc (Nat.le_refl _) _
    have HF3 := Lib.hid (Blk.new w2 36 #[.int .i64 0, .int .i64 0])
    generalize hw3 : (w2.alloc (.cells #[.int .i64 0, .int .i64 0] 36)) = w3 at *
    clear hw3
    refine (asked_any ws fr ot g C D c' d' both w3 (HV.out.below hx3) (HC2.out.below hx3) (HD2.out.below hx3) HFR.out HOT.out hfl).mono ?_
    rintro e w4 ⟨rfl, hb4⟩
    have hb24 := hx3.trans (hb4.mono hx3.size)
    have HL4 := Lib.hid (HL2.out.trans (hb24.mono HL2.out.size))
    have HR14 := Lib.hid (HR12.out.below hb24 HR12.out.lt)
    have HR24 := Lib.hid (HR22.out.below hb24 HR22.out.lt)
    have HF4 := Lib.hid (HF3.out.below hb4 HF3.out.lt)
    have HB4 := Lib.hid (HB2.out.below hb24)
    have HC4 := Lib.hid (HC2.out.below hb24)
    have HD4 := Lib.hid (HD2.out.below hb24)
    have HV4 := Lib.hid (HV.out.below hb24)
    clear hb24 hb4 hx3 y1 y2 y3 z1 z2 z3 z4 z5
    have hFw : w.heap.size + 1 + 1 < w2.heap.size := hRlt
    generalize w2.heap.size = F at *
    obtain ⟨y1, y2, y3⟩ := HR14.out.f1
    obtain ⟨z1, z2, z3, z4, z5⟩ := HR24.out.f2
    obtain ⟨t1, t2, t3, t4, t5⟩ := HF4.out.f2
    unfold fltV
    cases hc : ((wrongF ws fr ot both).1 != 0)
    · have h0 : (wrongF ws fr ot both).1 = 0 := by simpa using hc
      obtain ⟨hlen, hbt, hwz⟩ := wrongF_zero h0
      have HBT := Lib.hid (bt_none hbt)
      have HFE : Hid (becF ws rs fr ot both = (0, 0)) := HF.out.trans hwz
      have HRE : Hid (becR ws rs fr ot both = (exchF (other fr ot both) ws (places ws), rs.map (other fr ot both))) := by
        show _ = _; unfold becR; rw [if_pos (by rw [HFE.out])]
      rw [hwz]
      dsimp only
      have hle : ot.length ≤ fr.length := by omega
      have hge : fr.length ≤ ot.length := by omega
      clear h0 hbt hwz hlen hc
      go_wp2_with fail
      have s1 : w4.setCell ⟨F, 0, none⟩ (.int .i64 0) = w4 := setCell_same HF4.out rfl
      have s2 : w4.setCell ⟨F, 1, none⟩ (.int .i64 0) = w4 := setCell_same HF4.out rfl
      rw [s1, s2]
      have hM := MapI.new w4
      have hx5 : Below w4.heap.size w4 (w4.alloc (.map #[] 0)) := (Below.refl _ _).alloc (Nat.le_refl _) _
      generalize hw5 : (w4.alloc (.map #[] 0)) = w5 at *
      clear hw5 s1 s2
      have HM := Lib.hid hM; have HX5 := Lib.hid hx5
      have hFl : F < w4.heap.size := t5
      clear hM hx5 y1 y2 y3 z1 z2 z3 z4 z5 t1 t2 t3 t4 t5
      generalize hMe : w4.heap.size = M at *
      have HME := Lib.hid hMe; clear hMe
      go_loopw [42] (fun i wr => ∃ (j n : Nat) (f : Int → Option Value), j ≤ fr.length ∧ i = .int .i64 j ∧ w5.grownBy wr (some M) ∧ MapI wr M n f ∧ NowIs fr ot both j f) (fun i _ => fr.length - (intOf i).toNat)
      case atStart => exact ⟨0, 0, _, Nat.zero_le _, rfl, World.grownBy.refl _ _, HM.out, fun o => ⟨fun h => absurd h named_zero, fun _ => rfl⟩⟩
      case round =>
        obtain ⟨j, n, f, hj, rfl, hgr, hm, hs⟩ := hrel
        have hbr : Below M w4 wr := HX5.out.grown hgr (by have := HM.out.lt; omega) (fun q hq => by simp at hq; omega)
        have HG := Lib.hid hgr; have HMM := Lib.hid hm; have HS := Lib.hid hs; have HBR := Lib.hid hbr
        clear hgr hm hs hbr
        by_cases hlt : j < fr.length
        · obtain ⟨b1, o1, rfl, hb1, r1⟩ := HC4.out (by omega)
          obtain ⟨b2, o2, rfl, hb2, r2⟩ := HD4.out (by omega)
          have e1 := (r1.below HBR.out (by rw [← HME.out]; exact hb1)) j hlt
          have e2 := (r2.below HBR.out (by rw [← HME.out]; exact hb2)) j (by omega)
          obtain ⟨t1, t2⟩ := HFR.out j
          obtain ⟨t3, t4⟩ := HOT.out j
          have ht := HBT.out j hlt
          have HTW := Lib.hid ht
          have hbM : some b2 ≠ some M := by rw [← HME.out]; simp; omega
          clear r1 r2 hb1 hb2 ht
          cases both
          · go_wp2_with (at_mapUpdate; refine wpList_store rfl _ _ _ 110 3 rfl Try.underlying110 HMM.out rfl (nth fr j) rfl (.int .i64 (nth ot j)) rfl (by omega) (by omega) ?_; intro w6 hm6 hgr6; have HM6 := Lib.hid hm6; have HG6 := Lib.hid hgr6; clear hm6 hgr6)
            go_roundw
            case rel =>
              (repeat apply Exists.intro)
              exact ⟨⟨j + 1, _, _, by omega, by go_num, grownBy_trans HG.out HG6.out, HM6.out, HS.out.one hlt HTW.out⟩, rfl⟩
            case measure => simp [intOf]; omega
          · go_wp2_with (first
              | (at_mapUpdate; refine wpList_store rfl (.tmp 47) (.tmp 48) (.tmp 52) 110 3 rfl Try.underlying110 HMM.out rfl (nth fr j) rfl (.int .i64 (nth ot j)) rfl t1 t2 ?_; intro w6 hm6 hgr6; have HM6 := Lib.hid hm6; have HG6 := Lib.hid hgr6; have g2 := hgr6.cell e2 hbM; clear hm6 hgr6)
              | (at_mapUpdate; refine wpList_store rfl (.tmp 54) (.tmp 58) (.tmp 59) 110 3 rfl Try.underlying110 HM6.out rfl (nth ot j) rfl (.int .i64 (nth fr j)) rfl t3 t4 ?_; intro w7 hm7 hgr7; have HM7 := Lib.hid hm7; have HG7 := Lib.hid hgr7; clear hm7 hgr7))
            go_roundw
            case rel =>
              (repeat apply Exists.intro)
              exact ⟨⟨j + 1, _, _, by omega, by go_num, grownBy_trans HG.out (grownBy_trans HG6.out HG7.out), HM7.out, HS.out.two hlt HTW.out⟩, rfl⟩
            case measure => simp [intOf]; omega
        · obtain rfl : j = fr.length := by omega
          have HT := Lib.hid HS.out.turns
          have hbr' : Below w4.heap.size w4 wr := by rw [HME.out]; exact HBR.out
          have HBR' := Lib.hid hbr'
          clear hbr'
          go_wp2_with fail
          refine (exch_any (other fr ot both) ws rs g B d M n f wr (HV4.out.below HBR'.out) HOK.out HW.out (HB4.out.below HBR'.out) HRW.out hrl HMM.out HT.out (fun o => other_bd HFR.out HOT.out both o)).mono ?_
          rintro e w8 ⟨hb8, A8, k8, B8, d8, rfl, hO8, hP8⟩
          have hls := HBR'.out.size
          have hb48 := HBR'.out.trans (hb8.mono hls)
          have HL8 := Lib.hid (HL4.out.trans (hb48.mono HL4.out.size))
          have HR18 := Lib.hid (HR14.out.below hb48 HR14.out.lt)
          have HR28 := Lib.hid (HR24.out.below hb48 HR24.out.lt)
          have HF8 := Lib.hid (HF4.out.below hb48 HF4.out.lt)
          have hwr : w.heap.size ≤ wr.heap.size := by have := HL4.out.size; omega
          have hRw : w.heap.size + 1 + 1 < wr.heap.size := by have := HR24.out.lt; omega
          have HO8 := Lib.hid hO8; have HP8 := Lib.hid hP8
          have hoA : ∀ q, (Value.slice A8 (exchF (other fr ot both) ws (places ws)).length k8).ownBlock = some q → wr.heap.size ≤ q := fun q hq => (hO8.lt q hq).1
          have hoB : ∀ q, (Value.slice B8 (rs.map (other fr ot both)).length d8).ownBlock = some q → wr.heap.size ≤ q := fun q hq => (hP8.lt q hq).1
          have HOA := Lib.hid hoA; have HOB := Lib.hid hoB
          clear hb8 hb48 hO8 hP8 hoA hoB
          generalize exchF (other fr ot both) ws (places ws) = X at *
          generalize rs.map (other fr ot both) = Y at *
          obtain ⟨y1, y2, y3⟩ := HR18.out.f1
          obtain ⟨z1, z2, z3, z4, z5⟩ := HR28.out.f2
          obtain ⟨t1, t2, t3, t4, t5⟩ := HF8.out.f2
          go_wp2_with fail
          go_region
          all_goals (try go_wp2)
          all_goals
            rw [HRE.out, HFE.out]
            refine bodyPost_ret (v := .tuple #[.agg #[.slice A8 X.length k8], .slice B8 Y.length d8, fltV 0 0]) (by simp [results, Try.results119, go_sem, fltV, y1, y3, z1, z2, z5]) rfl ⟨?_, A8, k8, B8, d8, rfl, ?_, ?_⟩
            · repeat (first | exact HL8.out | refine Below.drew ?_ | refine Below.setCell ?_ (by dsimp only; omega) _ | refine Below.alloc ?_ (by simp; omega) _)
            · repeat (first | exact HO8.out.mono hwr | refine Own.setCell ?_ _ (fun e => by have := HOA.out _ e; dsimp only at this; omega) _ | refine Own.alloc ?_ _ | refine Own.drewN ?_ 1)
            · repeat (first | exact HP8.out.mono hwr | refine Own.setCell ?_ _ (fun e => by have := HOB.out _ e; dsimp only at this; omega) _ | refine Own.alloc ?_ _ | refine Own.drewN ?_ 1)
    · have h0 : (wrongF ws fr ot both).1 ≠ 0 := by simpa using hc
      have HRE := Lib.hid (becR_err (ws := ws) (rs := rs) (fr := fr) (ot := ot) (both := both) (by rw [HF.out]; exact h0))
      clear h0
      go_wp2_with fail
      go_region
      all_goals (try go_wp2)
      all_goals
        rw [HRE.out, HF.out]
        refine bodyPost_ret (v := .tuple #[.agg #[.slice none 0 0], .slice none 0 0, fltV (wrongF ws fr ot both).1 (wrongF ws fr ot both).2]) (by simp [results, Try.results119, go_sem, fltV, y1, z1, z2]) rfl (doneOut_err _ ?_)
        repeat (first | exact HL4.out | refine Below.drew ?_ | refine Below.setCell ?_ (by dsimp only; omega) _ | refine Below.alloc ?_ (by simp; omega) _)
end
end Go.Proofs.Ytjpppdacamhhfaa
