/- A heap's view is made, or it is told what is wrong. Conditions: the words are numbers of 64 bits. -/
import Derived.Test.YtjpppdacamhhfaaThing
import Derived.StillTailTactics
namespace Go.Proofs.Ytjpppdacamhhfaa
open Go.RowKit
set_option linter.unusedVariables false

def seeV (c : Int) (a : Nat) : Value := .tuple #[.pointer none, fltV c a]

set_option maxRecDepth 100000 in
theorem see_size (ws : List Int) (A : Option Addr) (c : Nat) (w : World) (hl : ws.length ≤ 9223372036854775807) (h : ws.length < 2 ∨ 2000 < ws.length) :
    Calls Try.prog 92 #[.agg #[.slice A ws.length c]] w fun e w' => e = .returned (seeV 1 0) ∧ Below w.heap.size w w' := by
  rcases h with h | h
  all_goals
    go_enter Try.func92, Try.ntmps92
    go_wp2

    exact bodyPost_ret (v := seeV 1 0) (by simp [results, Try.results92, go_sem, seeV, fltV]) rfl ⟨rfl, ((Below.refl _ _).alloc (Nat.le_refl _) _).alloc (by simp) _⟩

set_option maxRecDepth 100000 in
theorem see_head (ws : List Int) (b o c : Nat) (w : World) (hr : Row w b o ws) (hb : b < w.heap.size) (h1 : 2 ≤ ws.length) (h2 : ws.length ≤ 2000) (h : (nth ws 0 != 0) = true) :
    Calls Try.prog 92 #[.agg #[.slice (some ⟨b, o, none⟩) ws.length c]] w fun e w' => e = .returned (seeV 2 0) ∧ Below w.heap.size w w' := by
  have hc0 := hr 0 (by omega)
  rw [Nat.add_zero] at hc0
  clear hr
  go_enter Try.func92, Try.ntmps92
  go_wp2

  exact bodyPost_ret (v := seeV 2 0) (by simp [results, Try.results92, go_sem, seeV, fltV]) rfl ⟨rfl, ((Below.refl _ _).alloc (Nat.le_refl _) _).alloc (by simp) _⟩

set_option maxRecDepth 100000 in
theorem see_hash (ws : List Int) (b o c : Nat) (w : World) (hr : Row w b o ws) (hb : b < w.heap.size) (h1 : 2 ≤ ws.length) (h2 : ws.length ≤ 2000) (h : (nth ws 0 != 0) = false) (hh : nth ws 1 < 1 ∨ 10001 < nth ws 1) :
    Calls Try.prog 92 #[.agg #[.slice (some ⟨b, o, none⟩) ws.length c]] w fun e w' => e = .returned (seeV 2 1) ∧ Below w.heap.size w w' := by
  have hc0 := hr 0 (by omega)
  rw [Nat.add_zero] at hc0
  have hc1 := hr 1 (by omega)
  clear hr
  rcases hh with hh | hh
  all_goals
    go_enter Try.func92, Try.ntmps92
    go_wp2

    exact bodyPost_ret (v := seeV 2 1) (by simp [results, Try.results92, go_sem, seeV, fltV]) rfl ⟨rfl, ((Below.refl _ _).alloc (Nat.le_refl _) _).alloc (by simp) _⟩

theorem MapI.ne_cell {w : World} {M n : Nat} {f : Int → Option Value} {a : Addr} {v : Value} (h : MapI w M n f) (hc : w.cell? a = some v) : a.block ≠ M := fun e => by
  obtain ⟨es, clock, hb, _⟩ := h
  rw [← e] at hb
  simp [World.cell?, hb] at hc

theorem placesFrom_len (ws : List Int) : ∀ (f p : Nat), (placesFrom ws f p).length ≤ ws.length - p
  | 0, _ => by simp [placesFrom]
  | f + 1, p => by
    have h := placesFrom_len ws f (nxt ws p)
    have := nxt_gt ws p
    unfold placesFrom
    split
    · simp only [List.length_cons]; omega
    · simp
theorem places_len (ws : List Int) : (places ws).length ≤ ws.length := Nat.le_trans (placesFrom_len ws _ 2) (by omega)

/-- The map of begins while the places ps are known. -/
def BegunL (ps : List Nat) (f : Int → Option Value) : Prop := ∀ q : Nat, (q ∈ ps → ∃ i : Int, 0 < i ∧ f q = some (.int .i64 i)) ∧ (q ∉ ps → f q = none)
theorem BegunL.nil : BegunL [] (fun _ => none) := fun q => ⟨fun h => by simp at h, fun _ => rfl⟩
theorem BegunL.snoc {ps : List Nat} {f : Int → Option Value} (h : BegunL ps f) (p : Nat) (i : Int) (hi : 0 < i) : BegunL (ps ++ [p]) (put f p (.int .i64 i)) := fun q => by
  by_cases e : q = p
  · subst e
    exact ⟨fun _ => ⟨i, hi, put_same _ _ _⟩, fun hn => absurd (by simp) hn⟩
  · have e' : (q : Int) ≠ (p : Int) := by omega
    rw [put_other f _ e']
    exact ⟨fun hq => (h q).1 (by simpa [e] using hq), fun hq => (h q).2 (fun hm => hq (by simp [hm]))⟩
theorem BegunL.begun {ws : List Int} {f : Int → Option Value} (h : BegunL (places ws) f) : Begun ws f := fun q =>
  ⟨fun hq => (h q).1 (by simpa [isPl] using hq), fun hq => (h q).2 (by simpa [isPl] using hq)⟩

structure L1 (ws : List Int) (b o c : Nat) (w : World) (F M G B4 : Nat) (wr : World) (so : Value) (ps : List Nat) (p : Nat) : Prop where
  below : Below w.heap.size w wr
  flt : Blk wr F 36 #[.int .i64 0, .int .i64 0]
  view : Blk wr G 112 #[.slice (some ⟨b, o, none⟩) ws.length c, .map (some M), so]
  map_ : ∃ f, MapI wr M ps.length f ∧ BegunL ps f
  own : Own wr B4 so (ups ps)
  size : B4 ≤ wr.heap.size
  two : 2 ≤ p
  rest : places ws = ps ++ plFrom ws p
  bad : bad1 ws = badFrom ws p
  few : ps.length ≤ p

structure L2 (ws : List Int) (b o c : Nat) (w : World) (F M G B4 S : Nat) (A : Option Addr) (cO : Nat) (f : Int → Option Value) (wr : World) (k : Nat) : Prop where
  below : Below w.heap.size w wr
  flt : Blk wr F 36 #[.int .i64 0, .int .i64 0]
  view : Blk wr G 112 #[.slice (some ⟨b, o, none⟩) ws.length c, .map (some M), .slice A (places ws).length cO]
  map_ : MapI wr M (places ws).length f
  seen : ∃ n fS, MapI wr S n fS ∧ SeenIs (seenOf ws (places ws) k) fS
  ord : Ints wr A (ups (places ws))
  res : thingsF ws [] (places ws) = thingsF ws (seenOf ws (places ws) k) ((places ws).drop k)

/-- How the call ends. -/
def SeeEnd (ws : List Int) (w : World) (e : Ending) (w' : World) : Prop :=
  Below w.heap.size w w' ∧ (((checkF ws).1 ≠ 0 ∧ e = .returned (seeV (checkF ws).1 (checkF ws).2)) ∨
    ((checkF ws).1 = 0 ∧ ∃ g, e = .returned (.tuple #[.pointer (some ⟨g, 0, none⟩), fltV 0 0]) ∧ ViewAt w' g ws))

set_option maxRecDepth 100000 in
set_option maxHeartbeats 4000000 in
theorem see_main (ws : List Int) (b o c : Nat) (w : World) (hr : Row w b o ws) (hb : b < w.heap.size) (h1 : 2 ≤ ws.length) (h2 : ws.length ≤ 2000) (hcap : ws.length ≤ c) (hw : I64 ws)
    (h : (nth ws 0 != 0) = false) (hh1 : ¬ nth ws 1 < 1) (hh2 : ¬ 10001 < nth ws 1) :
    Calls Try.prog 92 #[.agg #[.slice (some ⟨b, o, none⟩) ws.length c]] w (SeeEnd ws w) := by
  have HCK1 := Lib.hid (fun p => checkF_bad (p := p) h1 h2 h hh1 hh2)
  have HCK2 := Lib.hid (checkF_none h1 h2 h hh1 hh2)
  have hc0 := hr 0 (by omega)
  rw [Nat.add_zero] at hc0
  have hc1 := hr 1 (by omega)
  have HR := Lib.hid hr; clear hr
  have HW := Lib.hid hw; clear hw
  have hmm := @run_makeMap Try.prog
  go_enter Try.func92, Try.ntmps92
  go_wp2
  clear hc0 hc1 h hh1 hh2
  have hl0 : L1 ws b o c w (w.heap.size + 1) (w.heap.size + 1 + 1) (w.heap.size + 1 + 1 + 1) (w.heap.size + 1 + 1 + 1 + 1)
      ((((w.alloc (.cells #[.slice (some ⟨b, o, none⟩) ws.length c] 33)).alloc (.cells #[.int .i64 0, .int .i64 0] 36)).alloc (.map #[] 0)).alloc (.cells #[.slice (some ⟨b, o, none⟩) ws.length c, .map (some (w.heap.size + 1 + 1)), .slice none 0 0] 112))
      (.slice none 0 0) [] 2 := by
    refine ⟨((((Below.refl _ _).alloc (Nat.le_refl _) _).alloc (by simp) _).alloc (by simp; omega) _).alloc (by simp; omega) _, ?_, ?_, ⟨fun _ => none, ?_, BegunL.nil⟩, Own.nil _ _, by simp, Nat.le_refl _, (places_eq ws).trans rfl, bad1_eq ws, Nat.zero_le _⟩
    · have hx := Blk.new (w.alloc (.cells #[.slice (some ⟨b, o, none⟩) ws.length c] 33)) 36 #[.int .i64 0, .int .i64 0]
      have e : (w.alloc (.cells #[.slice (some ⟨b, o, none⟩) ws.length c] 33)).heap.size = w.heap.size + 1 := by simp
      rw [e] at hx
      exact (hx.alloc _).alloc _
    · have hx := Blk.new (((w.alloc (.cells #[.slice (some ⟨b, o, none⟩) ws.length c] 33)).alloc (.cells #[.int .i64 0, .int .i64 0] 36)).alloc (.map #[] 0)) 112 #[.slice (some ⟨b, o, none⟩) ws.length c, .map (some (w.heap.size + 1 + 1)), .slice none 0 0]
      have e : (((w.alloc (.cells #[.slice (some ⟨b, o, none⟩) ws.length c] 33)).alloc (.cells #[.int .i64 0, .int .i64 0] 36)).alloc (.map #[] 0)).heap.size = w.heap.size + 1 + 1 + 1 := by simp
      rw [e] at hx
      exact hx
    · have hx := MapI.new ((w.alloc (.cells #[.slice (some ⟨b, o, none⟩) ws.length c] 33)).alloc (.cells #[.int .i64 0, .int .i64 0] 36))
      have e : ((w.alloc (.cells #[.slice (some ⟨b, o, none⟩) ws.length c] 33)).alloc (.cells #[.int .i64 0, .int .i64 0] 36)).heap.size = w.heap.size + 1 + 1 := by simp
      rw [e] at hx
      exact hx.alloc _
  have hF0 : w.heap.size < w.heap.size + 1 := by omega
  generalize w.heap.size + 1 = F at *
  have hM0 : F < F + 1 := by omega
  generalize F + 1 = M at *
  have hG0 : M < M + 1 := by omega
  generalize M + 1 = G at *
  have hB0 : G < G + 1 := by omega
  generalize G + 1 = B4 at *
  go_loopw [6] (fun at_ wr => ∃ p so ps, at_ = .int .i64 (p : Nat) ∧ L1 ws b o c w F M G B4 wr so ps p) (fun at_ _ => ws.length - (intOf at_).toNat)
  case atStart => exact ⟨2, .slice none 0 0, [], rfl, hl0⟩
  case round =>
    obtain ⟨p, so, ps, rfl, hL⟩ := hrel
    clear hl0
    have HL := Lib.hid hL
    have hv0 := hL.view.cell 0
    have hv1 := hL.view.cell 1
    have hv2 := hL.view.cell 2
    have hfr := hL.view.frozen 2
    simp at hv0 hv1 hv2
    clear hL
    have hrow : Row wr b o ws := HR.out.below HL.out.below hb
    have HROW := Lib.hid hrow; clear hrow
    by_cases hlt : p < ws.length
    · have hsz := HL.out.size
      have hfew := HL.out.few
      cases hbad : badB ws p
      · obtain ⟨f, hmap, hbeg⟩ := HL.out.map_
        have HMAP := Lib.hid hmap
        have HBEG := Lib.hid hbeg
        clear hmap hbeg
        have HBAD := Lib.hid hbad
        go_wp2_with (first
          | (go_at_call 147; refine (wrong_any ws b o c p _ HROW.out HW.out (by omega) (by omega)).mono ?_; rintro e w' ⟨rfl, m, rfl⟩)
          | (at_builtin; refine wpList_push rfl (.tmp 61) (.tmp 63) rfl B4 so (ups ps) rfl ((HL.out.own.drewN m).alloc _) wr.heap.size 1 (p : Int) rfl (cell_new (wr.drewN m) #[.int .i64 p] 3 (0, 0) 0) (by rw [ups_len]; omega) (by simp; omega) ?_; intro g1 cap1 w1 hown1 hg1 hgr1; have hview1 := ((HL.out.view.drewN m).alloc (.cells #[.int .i64 p] 3)).grown hgr1 (fun e => by have := (HL.out.own.lt _ e.symm).1; omega); have hq0 := hview1.cell 0; have hq1 := hview1.cell 1; have hq2 := hview1.cell 2; have hqf := hview1.frozen 2; simp at hq0 hq1 hq2; have HV1 := Lib.hid hview1; clear hview1; have HOWN1 := Lib.hid hown1; clear hown1; have HGR1 := Lib.hid hgr1; clear hgr1))
        have hB2 := HV1.out.set_ 2 (.slice (some ⟨g1, 0, none⟩) ((ups ps).length + 1) cap1)
        have hM2 : MapI (w1.setCell ⟨G, 2, none⟩ (.slice (some ⟨g1, 0, none⟩) ((ups ps).length + 1) cap1)) M ps.length f :=
          (((HMAP.out.drewN m).alloc (.cells #[.int .i64 p] 3)).grown HGR1.out (fun e => by have := (HL.out.own.lt _ e.symm).1; omega)).setCell _ _ (by simp; omega)
        have hO2 : Own (w1.setCell ⟨G, 2, none⟩ (.slice (some ⟨g1, 0, none⟩) ((ups ps).length + 1) cap1)) B4 (.slice (some ⟨g1, 0, none⟩) ((ups ps).length + 1) cap1) (ups ps ++ [(p : Int)]) :=
          HOWN1.out.setCell _ (by simp [Value.ownBlock]; omega) _
        have hL2 : Below w.heap.size w (w1.setCell ⟨G, 2, none⟩ (.slice (some ⟨g1, 0, none⟩) ((ups ps).length + 1) cap1)) :=
          ((((HL.out.below.trans (belowN _ _ m)).alloc (by simpa using by omega) (.cells #[.int .i64 p] 3)).grown HGR1.out (by simp; omega) (fun k hk => by have := (HL.out.own.lt k hk).1; omega))).setCell (by simp; omega) _
        have hF2 : Blk (w1.setCell ⟨G, 2, none⟩ (.slice (some ⟨g1, 0, none⟩) ((ups ps).length + 1) cap1)) F 36 #[.int .i64 0, .int .i64 0] :=
          (((HL.out.flt.drewN m).alloc (.cells #[.int .i64 p] 3)).grown HGR1.out (fun e => by have := (HL.out.own.lt _ e.symm).1; omega)).far (by simp; omega) _
        have hS2 : B4 ≤ (w1.setCell ⟨G, 2, none⟩ (.slice (some ⟨g1, 0, none⟩) ((ups ps).length + 1) cap1)).heap.size := by
          have := HGR1.out.size; simp [World.setCell] at this ⊢; omega
        generalize (w1.setCell ⟨G, 2, none⟩ (.slice (some ⟨g1, 0, none⟩) ((ups ps).length + 1) cap1)) = w2 at *
        clear hq0 hq1 hq2 hqf hv0 hv1 hv2 hfr
        have HB2 := Lib.hid hB2
        have hq1 : w2.cell? ⟨G, 1, none⟩ = some (.map (some M)) := hB2.cell 1
        have hq2 : w2.cell? ⟨G, 2, none⟩ = some (.slice (some ⟨g1, 0, none⟩) ((ups ps).length + 1) cap1) := hB2.cell 2
        have HM2 := Lib.hid hM2
        have HO2 := Lib.hid hO2
        have HL2 := Lib.hid hL2
        have HF2 := Lib.hid hF2
        clear hM2 hO2 hL2 hF2 hB2
        have hlp : (ups ps).length = ps.length := ups_len ps
        have HLP := Lib.hid hlp; clear hlp
        go_still_tail 10, (by kernel_rfl)
        change wpList _ _ _ _ _ (World.drew w2)
        refine wpList_store rfl (.tmp 70) (.tmp 71) (.tmp 76) 110 3 rfl Try.underlying110 HM2.out.drew rfl (p : Int) rfl (.int .i64 (((ups ps).length : Int) + 1)) rfl (by omega) (by omega) ?_
        intro w3 hM3 hgr3
        have hB3 := HB2.out.drew.grown hgr3 (by simp; omega)
        have hv0 := hB3.cell 0
        simp at hv0
        have hrow3 : Row w3 b o ws := (HR.out.below HL2.out.drew hb).grown hgr3 (by simp; omega)
        have HROW3 := Lib.hid hrow3
        have HM3 := Lib.hid hM3
        have HGR3 := Lib.hid hgr3
        have HB3 := Lib.hid hB3
        clear hM3 hgr3 hB3 hrow3 hq1 hq2
        go_wp2_with (go_at_call 116; refine (end_any ws G b o c p _ hv0 HROW3.out HW.out (by omega) (by have := not_bad HBAD.out; omega)).mono ?_; rintro e w' ⟨rfl, rfl⟩)
        go_roundw
        case rel =>
          refine ⟨nxt ws p, .slice (some ⟨g1, 0, none⟩) ((ups ps).length + 1) cap1, ps ++ [p], by rw [nxt_cast HBAD.out], ?_⟩
          have hx := nxt_gt ws p
          have hds : (w2.drew).grownBy w3 (some M) := HGR3.out
          have hlp := HLP.out
          refine ⟨HL2.out.drew.grown hds (by simp; omega) (fun k hk => by simp at hk; omega), HF2.out.drew.grown hds (by simp; omega), HB3.out, ⟨_, HM3.out.mono (by simp), HBEG.out.snoc p _ (by omega)⟩, ?_, ?_, ?_, ?_, ?_, ?_⟩
          · rw [ups_append]
            exact Own.grown (w := w2.drew) HO2.out hds (.inr (by simp [Value.ownBlock]; omega))
          · exact Nat.le_trans hS2 hds.size
          · omega
          · rw [HL.out.rest, plFrom_ok hlt HBAD.out, List.append_assoc]; rfl
          · rw [HL.out.bad, badFrom_ok hlt HBAD.out]
          · simp; omega
        case measure =>
          have hx := nxt_gt ws p
          have hy := nxt_cast HBAD.out
          simp [intOf]; omega
      · have hk0 := HL.out.flt.cell 0
        have hk1 := HL.out.flt.cell 1
        have hkf := HL.out.flt.frozen 0
        have hkf1 := HL.out.flt.frozen 1
        simp at hk0 hk1
        go_wp2_with (first
          | (go_at_call 147; refine (wrong_any ws b o c p _ HROW.out HW.out (by omega) (by omega)).mono ?_; rintro e w' ⟨rfl, m, rfl⟩))
        have hck : checkF ws = (2, p) := HCK1.out p (by rw [HL.out.bad, badFrom_bad hlt hbad])
        refine bodyPost_ret (v := seeV 2 p) (by simp [results, Try.results92, go_sem, seeV, fltV, hk0, hk1]) rfl ⟨?_, .inl ⟨by rw [hck]; simp, by rw [hck]⟩⟩
        repeat (first | exact HL.out.below.trans (belowN _ _ m) | refine Below.setCell ?_ (by simp; omega) _)
    · have hpl : places ws = ps := by rw [HL.out.rest, plFrom_end (by omega), List.append_nil]
      have hbd : bad1 ws = none := by rw [HL.out.bad, badFrom_end (by omega)]
      have HCK3 := Lib.hid (HCK2.out hbd)
      clear hbd
      subst hpl
      obtain ⟨f, hmap, hbeg⟩ := HL.out.map_
      obtain ⟨A, cO, hso, hord, hAb⟩ := HL.out.own.form
      rw [ups_len] at hso
      subst hso
      obtain ⟨W, rfl⟩ : ∃ W : World, W = wr := ⟨_, rfl⟩
      have hl0 : L2 ws b o c w F M G B4 W.heap.size A cO f (W.alloc (.map #[] 0)) 0 :=
        ⟨HL.out.below.alloc HL.out.below.size _, HL.out.flt.alloc _, HL.out.view.alloc _, hmap.alloc _, ⟨0, fun _ => none, MapI.new W, fun _ => ⟨fun h => by simp [seenOf] at h, fun _ => rfl⟩⟩,
          hord.below ((Below.refl _ _).alloc (Nat.le_refl _) _), by simp [seenOf]⟩
      have hWz := HL.out.size
      have hGz : G < W.heap.size := by omega
      have hm2 := hmap.lt
      have HBEG := Lib.hid hbeg.begun
      have hplen := places_len ws
      clear hmap hbeg hord
      go_wp2
      generalize hSz : W.heap.size = S at *
      have HSZ := Lib.hid hSz; clear hSz
      go_loopw [83] (fun kk w5 => ∃ k : Nat, k ≤ (places ws).length ∧ kk = .int .i64 k ∧ L2 ws b o c w F M G B4 S A cO f w5 k) (fun kk _ => (places ws).length - (intOf kk).toNat)
      case atStart => exact ⟨0, Nat.zero_le _, rfl, hl0⟩
      case round =>
        obtain ⟨k, hk, rfl, hL⟩ := hrel
        clear hl0 hv0 hv1 hv2 hfr
        have HL2 := Lib.hid hL
        clear hL
        by_cases hkl : k < (places ws).length
        · have hq : (places ws).getD k 0 ∈ places ws := by simp [List.getD, hkl]
          obtain ⟨b', o', rfl, hb', hrow'⟩ := HL2.out.ord (by rw [ups_len]; omega)
          have hcell := hrow' k (by rw [ups_len]; exact hkl)
          rw [ups_nth hkl] at hcell
          clear hrow'
          obtain ⟨nS, fS, hSm, hSi⟩ := HL2.out.seen
          have HSM := Lib.hid hSm
          have HSI := Lib.hid hSi
          have HST1 := Lib.hid (fun h => thingsF_step (ws := ws) hkl h)
          have HST2 := Lib.hid (fun h => thingsF_stop (ws := ws) hkl h)
          have HSE := Lib.hid (seenOf_succ (ws := ws) hkl)
          have HRES := Lib.hid HL2.out.res
          clear hSm hSi
          generalize (places ws).getD k 0 = q at *
          obtain ⟨q2, ql, qb⟩ := places_mem hq
          generalize seenOf ws (places ws) k = sn at *
          have HQB := Lib.hid qb; clear qb
          have hv0 := HL2.out.view.cell 0
          have hv1 := HL2.out.view.cell 1
          simp at hv0 hv1
          have HV0 := Lib.hid hv0
          have HV1 := Lib.hid hv1
          have hGl := HL2.out.view.lt
          have hk0 := HL2.out.flt.cell 0
          have hk1 := HL2.out.flt.cell 1
          have hkf := HL2.out.flt.frozen 0
          have hkf1 := HL2.out.flt.frozen 1
          have hFl := HL2.out.flt.lt
          simp at hk0 hk1
          have hbl : b < wr.heap.size := Nat.lt_of_lt_of_le hb HL2.out.below.size
          have hrowr : Row wr b o ws := HR.out.below HL2.out.below hb
          have HROW5 := Lib.hid hrowr
          have hMl := HL2.out.map_.lt
          have HMP := Lib.hid HL2.out.map_
          clear hv0 hv1 hrowr
          clear hk0 hk1 hkf hkf1 hFl
          cases h0 : ((thingF ws sn q).1 != 0)
          · go_wp2_with (go_at_call 148; refine (thing_any ws G b o c M _ f S nS fS sn q wr hGl hbl HV0.out HV1.out HROW5.out HW.out (by omega) hcap HMP.out HBEG.out HQB.out h1 HSM.out HSI.out (by omega) (by omega) (by omega)).mono ?_; rintro e w6 ⟨hgr6, he6, hS6⟩; have he6' : e = .returned (.agg #[.int .i64 (thingF ws sn q).1, .int .i64 ((thingF ws sn q).2 : Nat)]) := he6; subst he6'; clear he6; have HGR6 := Lib.hid hgr6; have HS6 := Lib.hid hS6; clear hgr6 hS6; have hF6 := HL2.out.flt.grown HGR6.out (by simp; omega); have hk0 := hF6.cell 0; have hk1 := hF6.cell 1; have hkf := hF6.frozen 0; have hkf1 := hF6.frozen 1; have hFl := hF6.lt; simp at hk0 hk1; have HF6 := Lib.hid hF6; clear hF6)
            have h0' : (thingF ws sn q).1 = 0 := by simpa using h0
            go_roundw
            case rel =>
              refine ⟨k + 1, by omega, by go_num, ?_⟩
              have hds : wr.grownBy (w6.alloc (.cells #[.int .i64 (thingF ws sn q).1, .int .i64 ((thingF ws sn q).2 : Nat)] 36)) (some S) := grownBy_alloc' HGR6.out _
              refine ⟨(HL2.out.below.grown hds (by omega) (fun j hj => by simp at hj; omega)), HF6.out.alloc _, HL2.out.view.grown hds (by simp; omega), HL2.out.map_.grown hds (by simp; omega), ⟨nS + 1, _, (HS6.out h0').alloc _, ?_⟩, ?_, ?_⟩
              · rw [HSE.out]
                intro x
                by_cases hx : x = nth ws (q + 1)
                · subst hx
                  exact ⟨fun _ => ⟨q, by omega, put_same _ _ _⟩, fun hn => absurd (List.mem_cons_self) hn⟩
                · rw [put_other _ _ hx]
                  exact ⟨fun hm => (HSI.out x).1 (by simpa [hx] using hm), fun hm => (HSI.out x).2 (fun h => hm (List.mem_cons_of_mem _ h))⟩
              · refine HL2.out.ord.keep hds.size (fun a ha => ?_)
                cases ha
                exact hds.block _ hb' (fun e => HSM.out.ne_cell hcell (by simpa using e))
              · exact HRES.out.trans (HST1.out h0')
            case measure => simp [intOf]; omega
          · go_wp2_with (go_at_call 148; refine (thing_any ws G b o c M _ f S nS fS sn q wr hGl hbl HV0.out HV1.out HROW5.out HW.out (by omega) hcap HMP.out HBEG.out HQB.out h1 HSM.out HSI.out (by omega) (by omega) (by omega)).mono ?_; rintro e w6 ⟨hgr6, he6, hS6⟩; have he6' : e = .returned (.agg #[.int .i64 (thingF ws sn q).1, .int .i64 ((thingF ws sn q).2 : Nat)]) := he6; subst he6'; clear he6; have HGR6 := Lib.hid hgr6; have HS6 := Lib.hid hS6; clear hgr6 hS6; have hF6 := HL2.out.flt.grown HGR6.out (by simp; omega); have hk0 := hF6.cell 0; have hk1 := hF6.cell 1; have hkf := hF6.frozen 0; have hkf1 := hF6.frozen 1; have hFl := hF6.lt; simp at hk0 hk1; have HF6 := Lib.hid hF6; clear hF6)
            have h0' : ¬ (thingF ws sn q).1 = 0 := by simpa using h0
            have hn7 := Blk.new w6 36 #[.int .i64 (thingF ws sn q).1, .int .i64 ((thingF ws sn q).2 : Nat)]
            have hn0 : (w6.alloc (.cells #[.int .i64 (thingF ws sn q).1, .int .i64 ((thingF ws sn q).2 : Nat)] 36)).cell? ⟨w6.heap.size, 0, none⟩ = some (.int .i64 (thingF ws sn q).1) := hn7.cell 0
            have hn1 : (w6.alloc (.cells #[.int .i64 (thingF ws sn q).1, .int .i64 ((thingF ws sn q).2 : Nat)] 36)).cell? ⟨w6.heap.size, 1, none⟩ = some (.int .i64 ((thingF ws sn q).2 : Nat)) := hn7.cell 1
            have hF7 := HF6.out.alloc (.cells #[.int .i64 (thingF ws sn q).1, .int .i64 ((thingF ws sn q).2 : Nat)] 36)
            have hk0 := hF7.cell 0
            have hk1 := hF7.cell 1
            have hkf := hF7.frozen 0
            have hkf1 := hF7.frozen 1
            simp only [List.getElem?_toArray, List.getElem?_cons_zero, List.getElem?_cons_succ] at hk0 hk1
            have hL7 : Below w.heap.size w (w6.alloc (.cells #[.int .i64 (thingF ws sn q).1, .int .i64 ((thingF ws sn q).2 : Nat)] 36)) :=
              (HL2.out.below.grown HGR6.out (by omega) (fun j hj => by simp at hj; omega)).alloc (by omega) _
            have HL7 := Lib.hid hL7
            generalize (w6.alloc (.cells #[.int .i64 (thingF ws sn q).1, .int .i64 ((thingF ws sn q).2 : Nat)] 36)) = w7 at *
            clear hn7 hF7 hL7
            go_still_tail 2, (by kernel_rfl)
            change wpList _ _ _ _ _ (World.drew w7)
            go_wp2
            have hck : checkF ws = thingF ws sn q := HCK3.out.trans (HRES.out.trans (HST2.out h0'))
            refine bodyPost_ret (v := seeV (thingF ws sn q).1 (thingF ws sn q).2) (by simp [results, Try.results92, go_sem, seeV, fltV, hk0, hk1]) rfl ⟨?_, .inl ⟨by rw [hck]; exact h0', by rw [hck]⟩⟩
            repeat (first | exact HL7.out | refine Below.drew ?_ | refine Below.setCell ?_ (by simp; omega) _)
        · obtain rfl : k = (places ws).length := by omega
          have hk0 := HL2.out.flt.cell 0
          have hk1 := HL2.out.flt.cell 1
          have hkf := HL2.out.flt.frozen 0
          have hkf1 := HL2.out.flt.frozen 1
          simp at hk0 hk1
          go_wp2
          have hck : checkF ws = (0, 0) := HCK3.out.trans (HL2.out.res.trans (by rw [List.drop_length]; rfl))
          have hbel : Below w.heap.size w ((wr.setCell ⟨F, 0, none⟩ (.int .i64 0)).setCell ⟨F, 1, none⟩ (.int .i64 0)) := (HL2.out.below.setCell (by simp; omega) _).setCell (by simp; omega) _
          have hB : Below F wr ((wr.setCell ⟨F, 0, none⟩ (.int .i64 0)).setCell ⟨F, 1, none⟩ (.int .i64 0)) := ((Below.refl _ _).setCell (by simp) _).setCell (by simp) _
          have hsize : ((wr.setCell ⟨F, 0, none⟩ (.int .i64 0)).setCell ⟨F, 1, none⟩ (.int .i64 0)).heap.size = wr.heap.size := by simp [World.setCell]
          refine bodyPost_ret (v := .tuple #[.pointer (some ⟨G, 0, none⟩), fltV 0 0]) (by simp [results, Try.results92, go_sem, fltV, hk0, hk1]) rfl ⟨hbel, .inr ⟨by rw [hck], G, rfl, ⟨b, o, c, M, (places ws).length, f, A, cO, ?_, ?_, ?_, hcap, HR.out.below hbel hb, ?_, HBEG.out, ?_⟩⟩⟩
          · rw [hsize]; exact HL2.out.view.lt
          · rw [hsize]; exact Nat.lt_of_lt_of_le hb HL2.out.below.size
          · exact (HL2.out.view.far (p := ⟨F, 0, none⟩) (by simp; omega) _).far (p := ⟨F, 1, none⟩) (by simp; omega) _
          · exact (HL2.out.map_.setCell _ _ (by simp; omega)).setCell _ _ (by simp; omega)
          · refine HL2.out.ord.keep (by rw [hsize]; exact Nat.le_refl _) (fun a ha => ?_)
            have := hAb a ha
            exact (Below.heap_setCell _ _ _ _ (by simp; omega)).trans (Below.heap_setCell _ _ _ _ (by simp; omega))

theorem see_any (ws : List Int) (A : Option Addr) (c : Nat) (w : World) (hA : Ints w A ws) (hcap : ws.length ≤ c) (hw : I64 ws) (hl : ws.length ≤ 9223372036854775807) :
    Calls Try.prog 92 #[.agg #[.slice A ws.length c]] w (SeeEnd ws w) := by
  by_cases h : ws.length < 2 ∨ 2000 < ws.length
  · have e : checkF ws = (1, 0) := by unfold checkF; rw [if_pos h]
    exact (see_size ws A c w hl h).mono fun _ _ ⟨he, hb⟩ => ⟨hb, .inl ⟨by rw [e]; decide, by rw [e]; exact he⟩⟩
  have h1 : 2 ≤ ws.length := by omega
  have h2 : ws.length ≤ 2000 := by omega
  obtain ⟨b, o, rfl, hb, hr⟩ := hA (by omega)
  cases h0 : (nth ws 0 != 0)
  · by_cases hh : nth ws 1 < 1 ∨ 10001 < nth ws 1
    · have h0' : ¬ nth ws 0 ≠ 0 := by simpa using h0
      have e : checkF ws = (2, 1) := by unfold checkF; rw [if_neg h, if_neg h0', if_pos hh]
      exact (see_hash ws b o c w hr hb h1 h2 h0 hh).mono fun _ _ ⟨he, hb'⟩ => ⟨hb', .inl ⟨by rw [e]; decide, by rw [e]; exact he⟩⟩
    · exact see_main ws b o c w hr hb h1 h2 hcap hw h0 (fun h => hh (.inl h)) (fun h => hh (.inr h))
  · have h0' : nth ws 0 ≠ 0 := by simpa using h0
    have e : checkF ws = (2, 0) := by unfold checkF; rw [if_neg h, if_pos h0']
    exact (see_head ws b o c w hr hb h1 h2 h0).mono fun _ _ ⟨he, hb'⟩ => ⟨hb', .inl ⟨by rw [e]; decide, by rw [e]; exact he⟩⟩

end Go.Proofs.Ytjpppdacamhhfaa
