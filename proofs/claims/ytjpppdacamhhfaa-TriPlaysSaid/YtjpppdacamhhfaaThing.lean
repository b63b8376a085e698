/- What tells what is wrong with one thing of a heap. Conditions: the words are numbers of 64 bits, the thing fits. -/
import Derived.Test.YtjpppdacamhhfaaView
namespace Go.Proofs.Ytjpppdacamhhfaa
open Go.RowKit
set_option linter.unusedVariables false

/-- What the map of hashes answers. -/
def SeenIs (seen : List Int) (f : Int → Option Value) : Prop := ∀ h : Int, (h ∈ seen → ∃ i : Int, 0 < i ∧ f h = some (.int .i64 i)) ∧ (h ∉ seen → f h = none)

/-- One fault as a value. -/
def fltV (c : Int) (a : Nat) : Value := .agg #[.int .i64 c, .int .i64 a]

def box2 : Obj := .cells #[.int .i64 0, .int .i64 0] 36
/-- How the walk over a thing's slots ends. -/
def SlotsEnd (ws : List Int) (p : Nat) (w : World) (S nS : Nat) (fS : Int → Option Value) (e : Ending) (w' : World) : Prop :=
  w.grownBy w' (some S) ∧ ((∃ k, badSlot ws p (slotsN ws p) 0 = some k ∧ e = .returned (fltV 3 k)) ∨
    (badSlot ws p (slotsN ws p) 0 = none ∧ e = .returned (fltV 0 0) ∧ MapI w' S (nS + 1) (put fS (nth ws (p + 1)) (.int .i64 p))))

section
variable (ws : List Int) (g b o c M n : Nat) (f : Int → Option Value) (S nS : Nat) (fS : Int → Option Value) (seen : List Int) (p : Nat) (w : World)
    (hg : g < w.heap.size) (hblt : b < w.heap.size)
    (hv0 : w.cell? ⟨g, 0, none⟩ = some (.slice (some ⟨b, o, none⟩) ws.length c)) (hv : w.cell? ⟨g, 1, none⟩ = some (.map (some M))) (hr : Row w b o ws) (hw : I64 ws) (hl : ws.length ≤ 100000) (hcap : ws.length ≤ c)
    (hm : MapI w M n f) (hf : Begun ws f) (hb : badB ws p = false) (h2 : 2 ≤ ws.length)
    (hS : MapI w S nS fS) (hfS : SeenIs seen fS)

include hg hblt hv0 hv hr hw hm hf hb in
set_option maxRecDepth 100000 in
set_option maxHeartbeats 1000000 in
theorem thing_class (h0 : (nth ws p != 0) = true) (hi : isTh ws (nth ws p) = false) :
    Calls Try.prog 148 #[.pointer (some ⟨g, 0, none⟩), .int .i64 p, .map (some S)] w fun e w' => e = .returned (fltV 3 p) ∧ Below w.heap.size w w' := by
  have HF := Lib.hid hf; clear hf
  have hb0 := not_bad hb
  obtain ⟨n1, n2, n3, n4, n5⟩ := hb0
  have hc := hr p (by omega)
  obtain ⟨r1, r2⟩ := hw p
  have HR := Lib.hid hr; clear hr
  have HW := Lib.hid hw; clear hw
  have hm' := hm.alloc box2
  have HM := Lib.hid hm'; clear hm hm'
  have hv1 := (cell_old w box2 g 1 hg).trans hv
  have HV := Lib.hid hv1; clear hv1
  unfold box2 at HM HV
  go_enter Try.func148, Try.ntmps148
  go_wp2_with (go_at_call 95; refine (is_any ws _ M n f _ _ HV.out HM.out HF.out (by omega) (by omega)).mono ?_; rintro e w' ⟨rfl, rfl⟩)
  exact bodyPost_ret (v := fltV 3 p) (by simp [results, Try.results148, go_sem, fltV]) rfl ⟨rfl, (Below.refl _ _).alloc (Nat.le_refl _) _⟩

include hg hblt hv0 hv hr hw hl hm hf hb h2 hS hfS in
set_option maxRecDepth 100000 in
set_option maxHeartbeats 1000000 in
theorem thing_hash (hcls : nth ws p = 0 ∨ isTh ws (nth ws p) = true) (hh : nth ws (p + 1) < 1 ∨ nth ws 1 ≤ nth ws (p + 1) ∨ nth ws (p + 1) ∈ seen) :
    Calls Try.prog 148 #[.pointer (some ⟨g, 0, none⟩), .int .i64 p, .map (some S)] w fun e w' => e = .returned (fltV 5 p) ∧ Below w.heap.size w w' := by
  have HF := Lib.hid hf; clear hf
  have hb0 := not_bad hb
  obtain ⟨n1, n2, n3, n4, n5⟩ := hb0
  have hc := hr p (by omega)
  have hc1 := hr (p + 1) (by omega)
  have hc2 := hr 1 (by omega)
  obtain ⟨r1, r2⟩ := hw p
  obtain ⟨s1, s2⟩ := hw (p + 1)
  have hrun := (hS.alloc box2).look (t := 110) (e := 3) Try.underlying110 (zero3 _) false (nth ws (p + 1)) s1 s2
  have HR := Lib.hid hr; clear hr
  have HW := Lib.hid hw; clear hw
  have hm' := hm.alloc box2
  have HM := Lib.hid hm'; clear hm hm' hS
  have hv1 := (cell_old w box2 g 1 hg).trans hv
  have HV := Lib.hid hv1; clear hv1
  unfold box2 at hrun HM HV
  simp only [Bool.false_eq_true, if_false] at hrun
  have hx : (nth ws p != 0) = false ∨ ((nth ws p != 0) = true ∧ isTh ws (nth ws p) = true) := by
    cases h : (nth ws p != 0)
    · exact .inl rfl
    · rcases hcls with h' | h'
      · rw [h'] at h; cases h
      · exact .inr ⟨rfl, h'⟩
  clear hcls
  have hq : nth ws (p + 1) < 1 ∨ (¬ nth ws (p + 1) < 1 ∧ nth ws 1 ≤ nth ws (p + 1)) ∨ (¬ nth ws (p + 1) < 1 ∧ ¬ nth ws 1 ≤ nth ws (p + 1) ∧ ∃ i : Int, 0 < i ∧ fS (nth ws (p + 1)) = some (.int .i64 i)) := by
    rcases Int.lt_or_le (nth ws (p + 1)) 1 with h | h
    · exact .inl h
    · rcases Int.lt_or_le (nth ws (p + 1)) (nth ws 1) with h' | h'
      · rcases hh with e | e | e
        · omega
        · omega
        · exact .inr (.inr ⟨by omega, by omega, (hfS _).1 e⟩)
      · exact .inr (.inl ⟨by omega, h'⟩)
  clear hh hfS
  rcases hx with hx | ⟨hx, hx'⟩ <;> rcases hq with hq | ⟨hq, hq'⟩ | ⟨hq, hq', i, hi, hfi⟩
  all_goals (try rw [hfi] at hrun)
  all_goals (try simp only [Option.getD_some] at hrun)
  all_goals
    go_enter Try.func148, Try.ntmps148
    go_wp2_with (go_at_call 95; refine (is_any ws _ M n f _ _ HV.out HM.out HF.out (by omega) (by omega)).mono ?_; rintro e w' ⟨rfl, rfl⟩)
    exact bodyPost_ret (v := fltV 5 p) (by simp [results, Try.results148, go_sem, fltV]) rfl ⟨rfl, (Below.refl _ _).alloc (Nat.le_refl _) _⟩

include hg hblt hv0 hv hr hw hl hcap hm hf hb h2 hS hfS in
set_option maxRecDepth 100000 in
set_option maxHeartbeats 2000000 in
theorem thing_slots (hMS : M ≠ S) (hgS : g ≠ S) (hbS : b ≠ S) (hcls : nth ws p = 0 ∨ isTh ws (nth ws p) = true) (hh1 : ¬ nth ws (p + 1) < 1) (hh2 : ¬ nth ws 1 ≤ nth ws (p + 1)) (hh3 : nth ws (p + 1) ∉ seen) :
    Calls Try.prog 148 #[.pointer (some ⟨g, 0, none⟩), .int .i64 p, .map (some S)] w fun e w' =>
      SlotsEnd ws p w S nS fS e w' := by
  have HF := Lib.hid hf; clear hf
  have HB := Lib.hid hb
  have hb0 := not_bad hb; clear hb
  obtain ⟨n1, n2, n3, n4, n5⟩ := hb0
  have hc := hr p (by omega)
  have hc1 := hr (p + 1) (by omega)
  have hc2 := hr 1 (by omega)
  obtain ⟨r1, r2⟩ := hw p
  obtain ⟨s1, s2⟩ := hw (p + 1)
  have hrun := (hS.alloc box2).look (t := 110) (e := 3) Try.underlying110 (zero3 _) false (nth ws (p + 1)) s1 s2
  rw [(hfS _).2 hh3] at hrun
  simp only [Bool.false_eq_true, if_false, Option.getD_none] at hrun
  have HR := Lib.hid hr; clear hr
  have HW := Lib.hid hw; clear hw
  have HM := Lib.hid (hm.alloc box2); clear hm
  have HS := Lib.hid (hS.alloc box2)
  have hslt := hS.lt
  have HV0 := Lib.hid ((cell_old w box2 g 0 hg).trans hv0)
  have HV := Lib.hid ((cell_old w box2 g 1 hg).trans hv)
  clear hS hfS hh3
  unfold box2 at hrun HM HV HV0 HS
  have hx : (nth ws p != 0) = false ∨ ((nth ws p != 0) = true ∧ isTh ws (nth ws p) = true) := by
    cases h : (nth ws p != 0)
    · exact .inl rfl
    · rcases hcls with h' | h'
      · rw [h'] at h; cases h
      · exact .inr ⟨rfl, h'⟩
  clear hcls
  rcases hx with hx | ⟨hx, hx'⟩
  all_goals
    go_enter Try.func148, Try.ntmps148
    go_wp2_with (first
      | (go_at_call 95; refine (is_any ws _ M n f _ _ HV.out HM.out HF.out (by omega) (by omega)).mono ?_; rintro e w' ⟨rfl, rfl⟩)
      | (at_mapUpdate; refine wpList_store rfl _ _ _ 110 3 rfl Try.underlying110 HS.out rfl (nth ws (p + 1)) rfl (.int .i64 p) rfl s1 s2 ?_; intro w1 hS1 hgr))
    have HV0 := Lib.hid (hgr.cell HV0.out (by simpa using hgS))
    have HV := Lib.hid (hgr.cell HV.out (by simpa using hgS))
    have HM := Lib.hid (HM.out.grown hgr (by simpa using hMS))
    have hrow : Row w1 b o ws := fun j hj => hgr.cell ((cell_old w (.cells #[.int .i64 0, .int .i64 0] 36) b (o + j) hblt).trans (HR.out j hj)) (by simpa using hbS)
    have HR := Lib.hid hrow; clear hrow
    have hz1 : w.heap.size + 1 ≤ w1.heap.size := by have := hgr.size; simpa using this
    have HG := Lib.hid (grownBy_trans (grownBy_below ((Below.refl _ _).alloc (Nat.le_refl _) (.cells #[.int .i64 0, .int .i64 0] 36))) hgr)
    have hnew : Blk w1 w.heap.size 36 #[.int .i64 0, .int .i64 0] := (Blk.new w 36 #[.int .i64 0, .int .i64 0]).grown hgr (by simp; omega)
    have hcn : w1.cell? ⟨w.heap.size, 0, none⟩ = some (.int .i64 0) := hnew.cell 0
    have hcn1 : w1.cell? ⟨w.heap.size, 1, none⟩ = some (.int .i64 0) := hnew.cell 1
    have hfn : w1.frozen? ⟨w.heap.size, 0, none⟩ = false := hnew.frozen 0
    have hfn1 : w1.frozen? ⟨w.heap.size, 1, none⟩ = false := hnew.frozen 1
    clear hnew
    clear hc hc1 hc2 hgr hrun
    have hb1 : b < w1.heap.size := by omega
    go_wp2_with (first
      | (go_at_call 97; refine (form_any ws g b o c p _ HV0.out HR.out HW.out hl (by omega)).mono ?_; rintro e w' ⟨rfl, rfl⟩)
      | (go_at_call 98; refine (slots_ex ws g b o c p _ hb1 HV0.out HR.out HW.out hl HB.out hcap).mono ?_; rintro e w' ⟨A, cA, m, rfl, hA, rfl⟩))
    have hn64 : slotsN ws p ≤ 60 := by unfold slotsN; omega
    go_loop [63] (fun kk => ∃ k : Nat, k ≤ slotsN ws p ∧ kk = .int .i64 k ∧ bsFrom ws p k = bsFrom ws p 0) (fun kk => slotsN ws p - (intOf kk).toNat)
    case atStart => exact ⟨0, Nat.zero_le _, rfl, rfl⟩
    case round =>
      obtain ⟨k, hk, rfl, hbs⟩ := hrel
      have HBS := Lib.hid hbs; clear hbs
      by_cases hlt : k < slotsN ws p
      · obtain ⟨b', o', rfl, hb', hrow'⟩ := hA (by rw [slotsL_len HB.out]; omega)
        have hcell := hrow' k (by rw [slotsL_len HB.out]; exact hlt)
        rw [slotsL_nth HB.out hlt] at hcell
        clear hrow'
        obtain ⟨t1, t2⟩ := HW.out (p + 3 + k)
        have HST := Lib.hid (bsFrom_step hlt)
        cases hst : standsB ws (formOf ws p) (nth ws (p + 3 + k))
        · go_wp2_with (go_at_call 99; refine (stands_any ws g M n f _ _ (w1.drewN m) HV.out HM.out HF.out (by omega) (by omega)).mono ?_; rintro e w' ⟨rfl, rfl⟩)
          refine bodyPost_ret (v := fltV 3 (p + 3 + k)) (by simp [results, Try.results148, go_sem, fltV, hcn, hcn1]) rfl ⟨?_, .inl ⟨p + 3 + k, ?_, rfl⟩⟩
          · repeat (first | exact grownBy_drewN HG.out _ | refine grownBy_setCell ?_ (.inl (Nat.le_refl _)) _)
          · have := HST.out; rw [hst] at this; exact (HBS.out.symm.trans this).trans (by simp)
        · go_wp2_with (go_at_call 99; refine (stands_any ws g M n f _ _ (w1.drewN m) HV.out HM.out HF.out (by omega) (by omega)).mono ?_; rintro e w' ⟨rfl, rfl⟩)
          go_round
          case rel => exact ⟨k + 1, by omega, by go_num, by have := HST.out; rw [hst, if_pos rfl] at this; rw [← this]; exact HBS.out⟩
          case measure => simp [intOf]; omega
      · obtain rfl : k = slotsN ws p := by omega
        go_wp2
        refine bodyPost_ret (v := fltV 0 0) (by simp [results, Try.results148, go_sem, fltV, hcn, hcn1]) rfl ⟨?_, .inr ⟨?_, rfl, ?_⟩⟩
        · repeat (first | exact grownBy_drewN HG.out _ | refine grownBy_setCell ?_ (.inl (Nat.le_refl _)) _)
        · exact HBS.out.symm.trans (bsFrom_end (Nat.le_refl _))
        · repeat (first | exact hS1 | refine MapI.setCell ?_ _ _ (by simp; omega) | exact hS1.drewN _)
/-- How the call ends. -/
def ThingEnd (ws seen : List Int) (p : Nat) (w : World) (S nS : Nat) (fS : Int → Option Value) (e : Ending) (w' : World) : Prop :=
  w.grownBy w' (some S) ∧ e = .returned (fltV (thingF ws seen p).1 (thingF ws seen p).2) ∧ ((thingF ws seen p).1 = 0 → MapI w' S (nS + 1) (put fS (nth ws (p + 1)) (.int .i64 p)))

include hg hblt hv0 hv hr hw hl hcap hm hf hb h2 hS hfS in
theorem thing_any (hMS : M ≠ S) (hgS : g ≠ S) (hbS : b ≠ S) :
    Calls Try.prog 148 #[.pointer (some ⟨g, 0, none⟩), .int .i64 p, .map (some S)] w (ThingEnd ws seen p w S nS fS) := by
  by_cases hc : nth ws p ≠ 0 ∧ isTh ws (nth ws p) = false
  · have e : thingF ws seen p = (3, p) := by unfold thingF; rw [if_pos hc]
    refine (thing_class ws g b o c M n f S p w hg hblt hv0 hv hr hw hm hf hb (by simpa using hc.1) hc.2).mono fun _ _ ⟨he, hb'⟩ => ⟨grownBy_below hb', by rw [e]; exact he, fun h => ?_⟩
    rw [e] at h; cases h
  have hcls : nth ws p = 0 ∨ isTh ws (nth ws p) = true := by
    cases hi : isTh ws (nth ws p)
    · exact .inl (Classical.byContradiction fun h => hc ⟨h, hi⟩)
    · exact .inr rfl
  by_cases hh : nth ws (p + 1) < 1 ∨ nth ws 1 ≤ nth ws (p + 1) ∨ nth ws (p + 1) ∈ seen
  · have e : thingF ws seen p = (5, p) := by unfold thingF; rw [if_neg hc, if_pos hh]
    refine (thing_hash ws g b o c M n f S nS fS seen p w hg hblt hv0 hv hr hw hl hm hf hb h2 hS hfS hcls hh).mono fun _ _ ⟨he, hb'⟩ => ⟨grownBy_below hb', by rw [e]; exact he, fun h => ?_⟩
    rw [e] at h; cases h
  · simp only [not_or] at hh
    have hn : ¬ (nth ws (p + 1) < 1 ∨ nth ws 1 ≤ nth ws (p + 1) ∨ nth ws (p + 1) ∈ seen) := by simp only [not_or]; exact hh
    refine (thing_slots ws g b o c M n f S nS fS seen p w hg hblt hv0 hv hr hw hl hcap hm hf hb h2 hS hfS hMS hgS hbS hcls hh.1 hh.2.1 hh.2.2).mono fun _ _ ⟨hg', h⟩ => ⟨hg', ?_⟩
    rcases h with ⟨k, hk, he⟩ | ⟨hk, he, hm'⟩
    · have e : thingF ws seen p = (3, k) := by unfold thingF; rw [if_neg hc, if_neg hn, hk]
      rw [e]; exact ⟨he, fun h => by cases h⟩
    · have e : thingF ws seen p = (0, 0) := by unfold thingF; rw [if_neg hc, if_neg hn, hk]
      rw [e]; exact ⟨he, fun _ => hm'⟩
end
end Go.Proofs.Ytjpppdacamhhfaa
