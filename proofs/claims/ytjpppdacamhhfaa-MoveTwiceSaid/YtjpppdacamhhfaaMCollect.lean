/- move.Collect computes what is laid in the order in which it is come to. Conditions: numbers of 64 bits. -/
import Derived.Test.YtjpppdacamhhfaaNow
import Derived.Test.YtjpppdacamhhfaaMem5
import Derived.Test.YtjpppdacamhhfaaMover
import Derived.Test.YtjpppdacamhhfaaMSpec2
import Derived.Test.YtjpppdacamhhfaaVast
import Derived.Test.YtjpppdacamhhfaaDone
namespace Go.Proofs.Ytjpppdacamhhfaa
open Go.RowKit
set_option linter.unusedVariables false

/-- What a move tells: a fault and nothing, or what is laid. -/
def MoveTold (ws rs : List Int) (w : World) (e : Ending) (w' : World) : Prop :=
  (∃ X Y, DoneOut (rootsF ws rs) (X, Y) w e w' ∧ (((rootsF ws rs).1 ≠ 0 ∧ X = [] ∧ Y = []) ∨ ((rootsF ws rs).1 = 0 ∧ ∃ k, (chen ws rs k).length = k ∧ X = arrW ws (chen ws rs k) ∧ Y = arrR ws rs (chen ws rs k))))

/-- All that a move has in memory: the mover; the roots so far; the weak places so far. -/
structure MS (w3 wr : World) (F B9 g M : Nat) (ws : List Int) (ord : List Nat) (xs : List Int) (v lv : Value) (ls : List Int) (kv : Value) (ks : List Int) : Prop where
  mov : MovAt wr F B9 g M ws ord xs v
  below : Below F w3 wr
  size : F ≤ wr.heap.size
  l : Own wr F lv ls
  lf : ∀ k, lv.ownBlock = some k → k ≠ B9 ∧ k ≠ M ∧ v.ownBlock ≠ some k
  k : Own wr F kv ks
  kf : ∀ k, kv.ownBlock = some k → k ≠ B9 ∧ k ≠ M ∧ v.ownBlock ≠ some k ∧ lv.ownBlock ≠ some k
section
variable {w3 wr : World} {F B9 g M : Nat} {ws : List Int} {ord : List Nat} {xs : List Int} {v lv : Value} {ls : List Int} {kv : Value} {ks : List Int} (h : MS w3 wr F B9 g M ws ord xs v lv ls kv ks)
include h
theorem MS.now {w' : World} {v' : Value} {ord' : List Nat} {xs' : List Int} (hm : MovAt w' F B9 g M ws ord' xs' v') (ht : Turned wr w' (fun k => k = B9 ∨ k = M ∨ v.ownBlock = some k)) (hf : ∀ k, v'.ownBlock = some k → v.ownBlock = some k ∨ wr.heap.size ≤ k) : MS w3 w' F B9 g M ws ord' xs' v' lv ls kv ks := by
  have hS : ∀ {u : Value}, (∀ k, u.ownBlock = some k → k ≠ B9 ∧ k ≠ M ∧ v.ownBlock ≠ some k) → ∀ k, u.ownBlock = some k → ¬ (k = B9 ∨ k = M ∨ v.ownBlock = some k) := fun hu k e hc => by
    obtain ⟨a, b, c⟩ := hu k e
    rcases hc with hc | hc | hc
    · exact a hc
    · exact b hc
    · exact c hc
  have hv : ∀ {u : Value} {us : List Int}, Own wr F u us → (∀ k, u.ownBlock = some k → k ≠ B9 ∧ k ≠ M ∧ v.ownBlock ≠ some k) → ∀ k, u.ownBlock = some k → k ≠ B9 ∧ k ≠ M ∧ v'.ownBlock ≠ some k := fun ho hu k e =>
    ⟨(hu k e).1, (hu k e).2.1, fun e' => by
      rcases hf k e' with h1 | h1
      · exact (hu k e).2.2 h1
      · have := (ho.lt k e).2; omega⟩
  have hk3 := fun k e => (⟨(h.kf k e).1, (h.kf k e).2.1, (h.kf k e).2.2.1⟩ : k ≠ B9 ∧ k ≠ M ∧ v.ownBlock ≠ some k)
  have hlo := h.mov.lo
  refine ⟨hm, h.below.trans (ht.below h.size fun k hk hc => ?_), Nat.le_trans h.size ht.size, ht.own h.l (hS h.lf), hv h.l h.lf, ht.own h.k (hS hk3), fun k e => ?_⟩
  · rcases hc with hc | hc | hc
    · omega
    · omega
    · have := (h.mov.own.lt k hc).1; omega
  · obtain ⟨a, b, c⟩ := hv h.k hk3 k e
    exact ⟨a, b, c, (h.kf k e).2.2.2⟩
theorem MS.pushl {w' : World} {lv' : Value} {ls' : List Int} (o : Obj) (ho : Own w' F lv' ls') (hg : (wr.alloc o).grownBy w' lv.ownBlock) (hat : ∀ k, lv'.ownBlock = some k → lv.ownBlock = some k ∨ k = (wr.alloc o).heap.size) : MS w3 w' F B9 g M ws ord xs v lv' ls' kv ks := by
  have hsz : (wr.alloc o).heap.size = wr.heap.size + 1 := by simp
  have hnew : ∀ k, lv'.ownBlock = some k → lv.ownBlock = some k ∨ wr.heap.size < k := fun k e => (hat k e).imp id (fun e' => by omega)
  obtain ⟨n, hmap⟩ := h.mov.map_
  have hlo := h.mov.lo
  have hB := h.mov.blk.lt
  have hM := hmap.lt
  refine ⟨⟨(h.mov.blk.alloc o).grown hg (fun e => (h.lf B9 e.symm).1 rfl), (h.mov.own.alloc o).grown hg ?_, ⟨n, (hmap.alloc o).grown hg (fun e => (h.lf M e.symm).2.1 rfl)⟩, h.mov.len, hlo, h.mov.far⟩,
    (h.below.alloc h.size o).grown hg (by rw [hsz]; have := h.size; omega) (fun k e => (h.l.lt k e).1), Nat.le_trans (by rw [hsz]; have := h.size; omega) hg.size, ho, fun k e => ?_, (h.k.alloc o).grown hg ?_, fun k e => ?_⟩
  · rcases hv : v.ownBlock with _ | k
    · exact .inl rfl
    · exact .inr (fun e => (h.lf k e.symm).2.2 hv)
  · rcases hnew k e with h1 | h1
    · exact h.lf k h1
    · exact ⟨by omega, by omega, fun e' => by have := (h.mov.own.lt k e').2; omega⟩
  · rcases hv : kv.ownBlock with _ | k
    · exact .inl rfl
    · exact .inr (fun e => (h.kf k hv).2.2.2 e.symm)
  · obtain ⟨a, b, c, d⟩ := h.kf k e
    exact ⟨a, b, c, fun e' => by
      rcases hnew k e' with h1 | h1
      · exact d h1
      · have := (h.k.lt k e).2; omega⟩
theorem MS.pushk {w' : World} {kv' : Value} {ks' : List Int} (o : Obj) (ho : Own w' F kv' ks') (hg : (wr.alloc o).grownBy w' kv.ownBlock) (hat : ∀ k, kv'.ownBlock = some k → kv.ownBlock = some k ∨ k = (wr.alloc o).heap.size) : MS w3 w' F B9 g M ws ord xs v lv ls kv' ks' := by
  have hsz : (wr.alloc o).heap.size = wr.heap.size + 1 := by simp
  have hnew : ∀ k, kv'.ownBlock = some k → kv.ownBlock = some k ∨ wr.heap.size < k := fun k e => (hat k e).imp id (fun e' => by omega)
  obtain ⟨n, hmap⟩ := h.mov.map_
  have hlo := h.mov.lo
  have hB := h.mov.blk.lt
  have hM := hmap.lt
  refine ⟨⟨(h.mov.blk.alloc o).grown hg (fun e => (h.kf B9 e.symm).1 rfl), (h.mov.own.alloc o).grown hg ?_, ⟨n, (hmap.alloc o).grown hg (fun e => (h.kf M e.symm).2.1 rfl)⟩, h.mov.len, hlo, h.mov.far⟩,
    (h.below.alloc h.size o).grown hg (by rw [hsz]; have := h.size; omega) (fun k e => (h.k.lt k e).1), Nat.le_trans (by rw [hsz]; have := h.size; omega) hg.size, (h.l.alloc o).grown hg ?_, h.lf, ho, fun k e => ?_⟩
  · rcases hv : v.ownBlock with _ | k
    · exact .inl rfl
    · exact .inr (fun e => (h.kf k e.symm).2.2.1 hv)
  · rcases hv : lv.ownBlock with _ | k
    · exact .inl rfl
    · exact .inr (fun e => (h.kf k e.symm).2.2.2 hv)
  · rcases hnew k e with h1 | h1
    · exact h.kf k h1
    · exact ⟨by omega, by omega, fun e' => by have := (h.mov.own.lt k e').2; omega, fun e' => by have := (h.l.lt k e').2; omega⟩
theorem MS.drewN (n : Nat) : MS w3 (wr.drewN n) F B9 g M ws ord xs v lv ls kv ks :=
  ⟨⟨h.mov.blk, h.mov.own, h.mov.map_, h.mov.len, h.mov.lo, h.mov.far⟩, h.below.trans (belowN _ _ n), h.size, h.l, h.lf, h.k, h.kf⟩
end
theorem MS.put {w3 wr : World} {F B9 g M : Nat} {ws : List Int} {ord : List Nat} {xs : List Int} {G n c : Nat} {lv : Value} {ls : List Int} {kv : Value} {ks : List Int} (h : MS w3 wr F B9 g M ws ord xs (.slice (some ⟨G, 0, none⟩) n c) lv ls kv ks) (j : Nat) (x : Int) :
    MS w3 (wr.setCell ⟨G, j, none⟩ (.int .i64 x)) F B9 g M ws ord (xs.set j x) (.slice (some ⟨G, 0, none⟩) n c) lv ls kv ks := by
  obtain ⟨m, hmap⟩ := h.mov.map_
  have hfar := h.mov.far G rfl
  refine ⟨⟨h.mov.blk.far (fun e => hfar.1 e.symm) _, h.mov.own.put j x, ⟨m, hmap.setCell _ _ (fun e => hfar.2 e.symm)⟩, by rw [List.length_set]; exact h.mov.len, h.mov.lo, h.mov.far⟩,
    h.below.setCell (h.mov.own.lt G rfl).1 _, by simpa [World.setCell] using h.size, h.l.setCell ⟨G, j, none⟩ (fun e => (h.lf G e).2.2 rfl) _, h.lf, h.k.setCell ⟨G, j, none⟩ (fun e => (h.kf G e).2.2.1 rfl) _, h.kf⟩

section
variable (ws rs : List Int) (A B : Option Addr) (c d : Nat) (w : World) (hA : Ints w A ws) (hcap : ws.length ≤ c) (hw : I64 ws) (hl : ws.length ≤ 9223372036854775807)
    (hB : Ints w B rs) (hr : I64 rs) (hrl : rs.length ≤ 1000000)
include hA hcap hw hl hB hr hrl

set_option maxRecDepth 100000 in
set_option maxHeartbeats 4000000 in
theorem mcollect_any : Calls Try.prog 54 #[.agg #[.slice A ws.length c], .slice B rs.length d] w (MoveTold ws rs w) := by
  have hx0 : Below w.heap.size w (((w.alloc (.cells #[.slice A ws.length c] 33)).alloc (.cells #[.slice none 0 0] 33)).alloc (.cells #[.int .i64 0, .int .i64 0] 36)) := (((Below.refl _ _).alloc (Nat.le_refl _) _).alloc (by simp) _).alloc (by simp; omega) _
  have hh0 : Blk (((w.alloc (.cells #[.slice A ws.length c] 33)).alloc (.cells #[.slice none 0 0] 33)).alloc (.cells #[.int .i64 0, .int .i64 0] 36)) w.heap.size 33 #[.slice A ws.length c] := ((Blk.new _ _ _).alloc _).alloc _
  have hr1 : Blk (((w.alloc (.cells #[.slice A ws.length c] 33)).alloc (.cells #[.slice none 0 0] 33)).alloc (.cells #[.int .i64 0, .int .i64 0] 36)) (w.heap.size + 1) 33 #[.slice none 0 0] := by
    have := Blk.new (w.alloc (.cells #[.slice A ws.length c] 33)) 33 #[.slice none 0 0]
    exact Blk.alloc (by simpa using this) _
  have hr2 : Blk (((w.alloc (.cells #[.slice A ws.length c] 33)).alloc (.cells #[.slice none 0 0] 33)).alloc (.cells #[.int .i64 0, .int .i64 0] 36)) (w.heap.size + 1 + 1) 36 #[.int .i64 0, .int .i64 0] := by
    have := Blk.new ((w.alloc (.cells #[.slice A ws.length c] 33)).alloc (.cells #[.slice none 0 0] 33)) 36 #[.int .i64 0, .int .i64 0]
    simpa using this
  have HX0 := Lib.hid hx0; have HH0 := Lib.hid hh0; have HR1 := Lib.hid hr1; have HR2 := Lib.hid hr2
  have HA := Lib.hid (hA.below hx0); have HB := Lib.hid (hB.below hx0)
  have HW := Lib.hid hw; have HRW := Lib.hid hr
  clear hx0 hh0 hr1 hr2 hA hB hw hr
  have hmm := @run_makeMap Try.prog
  go_enter Try.func54, Try.ntmps54
  go_wp2_with fail
  generalize hw1 : (((w.alloc (.cells #[.slice A ws.length c] 33)).alloc (.cells #[.slice none 0 0] 33)).alloc (.cells #[.int .i64 0, .int .i64 0] 36)) = w1 at *
  clear hw1
  refine (rsee_any ws rs A B c d w1 HA.out hcap HW.out hl HB.out HRW.out (by omega)).mono ?_
  rintro e w2 ⟨hb2, h⟩
  have HL2 := Lib.hid (HX0.out.trans (hb2.mono HX0.out.size))
  have HH2 := Lib.hid (HH0.out.below hb2 HH0.out.lt)
  have HR12 := Lib.hid (HR1.out.below hb2 HR1.out.lt)
  have HR22 := Lib.hid (HR2.out.below hb2 HR2.out.lt)
  have HA2 := Lib.hid (HA.out.below hb2)
  have HB2 := Lib.hid (HB.out.below hb2)
  have hRlt : w.heap.size + 1 + 1 < w2.heap.size := HR22.out.lt
  clear hb2
  obtain ⟨y1, y2, y3⟩ := HR12.out.f1
  obtain ⟨z1, z2, z3, z4, z5⟩ := HR22.out.f2
  rcases h with ⟨h0, rfl⟩ | ⟨h0, g, rfl, hv⟩
  · have h1 : ((rootsF ws rs).1 != 0) = true := by simpa using h0
    have HN := Lib.hid h0
    clear h0
    unfold seeV fltV
    go_wp2_with fail
    go_region
    all_goals (try go_wp2)
    all_goals
      refine bodyPost_ret (v := .tuple #[.agg #[.slice none 0 0], .slice none 0 0, fltV (rootsF ws rs).1 (rootsF ws rs).2]) (by simp [results, Try.results54, go_sem, fltV, y1, y3, z1, z2, z5]) rfl ⟨[], [], doneOut_err _ ?_, .inl ⟨HN.out, rfl, rfl⟩⟩
      repeat (first | exact HL2.out | refine Below.drew ?_ | refine Below.setCell ?_ (by dsimp only; omega) _ | refine Below.alloc ?_ (by simp; omega) _)
  · obtain ⟨hokh, hokb, _, hfit, hz⟩ := rootsF_zero h0
    have HV := Lib.hid hv
    have HOK := Lib.hid hokh
    have HFIT := Lib.hid hfit
    have HZ := Lib.hid hz
    have hq1 : 2 ≤ ws.length := hokh.two
    have hq2 : ws.length ≤ 2000 := hokh.most
    clear hv hokh hokb hz h0 hfit
    have hx3 : Below w2.heap.size w2 (w2.alloc (.cells #[.int .i64 0, .int .i64 0] 36)) := (Below.refl _ _).alloc (Nat.le_refl _) _
    have HF3 := Lib.hid (Blk.new w2 36 #[.int .i64 0, .int .i64 0])
    have HL3 := Lib.hid (HL2.out.trans (hx3.mono HL2.out.size))
    have HH3 := Lib.hid (HH2.out.below hx3 HH2.out.lt)
    have HR13 := Lib.hid (HR12.out.below hx3 HR12.out.lt); have HR23 := Lib.hid (HR22.out.below hx3 HR22.out.lt)
    have HA3 := Lib.hid (HA2.out.below hx3); have HB3 := Lib.hid (HB2.out.below hx3); have HV3 := Lib.hid (HV.out.below hx3)
    have hs3' : w2.heap.size < (w2.alloc (.cells #[.int .i64 0, .int .i64 0] 36)).heap.size := by simp
    clear hx3 y1 y2 y3 z1 z2 z3 z4 z5
    obtain ⟨x1, x2, x3⟩ := HH3.out.f1
    obtain ⟨b0, o0, rfl, hb0, hro0⟩ := HA3.out (by omega)
    have HRO0 := Lib.hid hro0
    have hj2 : Ints (w2.alloc (.cells #[.int .i64 0, .int .i64 0] 36)) (some ⟨b0, o0, none⟩) [nth ws 0, nth ws 1] := fun _ => ⟨b0, o0, rfl, hb0, fun j hj => by
      have hj' : j < 2 := hj
      rw [HRO0.out j (by omega)]
      have hc : j = 0 ∨ j = 1 := by omega
      rcases hc with rfl | rfl <;> rfl⟩
    have HJ2 := Lib.hid hj2
    have hl2 : ([] : List Int).length + [nth ws 0, nth ws 1].length ≤ 1000000000 := by simp
    clear hro0 hj2
    have t1 : (2 : Int) ≤ (c : Int) := by omega
    have t2 : ¬ c < 2 := by omega
    have t3 : 2 ≤ c := by omega
    unfold fltV
    go_wp2_with (at_builtin; refine wpList_joinM rfl _ _ rfl (w2.alloc (.cells #[.int .i64 0, .int .i64 0] 36)).heap.size (.slice none 0 0) [] rfl (Own.nil _ _) (some ⟨b0, o0, none⟩) _ [nth ws 0, nth ws 1] rfl HJ2.out hl2 (Nat.le_refl _) ?_; intro A4 n4 c4 w4 hown4 hgr4 hat4; have hb4 : Below (w2.alloc (.cells #[.int .i64 0, .int .i64 0] 36)).heap.size (w2.alloc (.cells #[.int .i64 0, .int .i64 0] 36)) w4 := (Below.refl _ _).grown hgr4 (Nat.le_refl _) (fun q hq => nomatch hq); have HO4 := Lib.hid hown4; have HAT4 := Lib.hid hat4; have HB4 := Lib.hid hb4; clear hown4 hgr4 hat4 hb4)
    generalize hw3 : (w2.alloc (.cells #[.int .i64 0, .int .i64 0] 36)) = w3 at *
    clear hw3 x1 x2 x3 t1 t2 t3 hl2
    have hWs : Hid ((w4.alloc (.map #[] 0)).heap.size = w4.heap.size + 1) := by show _ = _; simp
    have h34 : w3.heap.size ≤ w4.heap.size := HB4.out.size
    have hms : MS w3 ((w4.alloc (.map #[] 0)).alloc (.cells #[.pointer (some ⟨g, 0, none⟩), .slice A4 n4 c4, .map (some w4.heap.size)] 119)) w3.heap.size (w4.heap.size + 1) g w4.heap.size ws [] [nth ws 0, nth ws 1] (.slice A4 n4 c4) (.slice none 0 0) [] (.slice none 0 0) [] := by
      refine ⟨⟨?_, (HO4.out.alloc _).alloc _, ⟨0, ?_⟩, rfl, ⟨by omega, h34, by omega⟩, ?_⟩, (HB4.out.alloc h34 _).alloc (by simp; omega) _, by simp; omega, Own.nil _ _, ?_, Own.nil _ _, ?_⟩
      · have := Blk.new (w4.alloc (.map #[] 0)) 119 #[.pointer (some ⟨g, 0, none⟩), .slice A4 n4 c4, .map (some w4.heap.size)]
        rwa [hWs.out] at this
      · rw [movedM_nil]; exact (MapI.new w4).alloc _
      · intro k e
        have := (HO4.out.lt k e).2
        omega
      · intro k e; cases e
      · intro k e; cases e
    have HMS := Lib.hid hms
    clear hms
    generalize ((w4.alloc (.map #[] 0)).alloc (.cells #[.pointer (some ⟨g, 0, none⟩), .slice A4 n4 c4, .map (some w4.heap.size)] 119)) = w5 at *
    clear hWs HO4 HAT4 HB4 h34
    have hvw : ∀ W W', Below w3.heap.size w3 W → Below w3.heap.size W W' → ViewAt W' g ws := fun W W' h1 h2 => HV3.out.below (h1.trans h2)
    have HVW := Lib.hid hvw
    have HBW : Hid (∀ W, Below w3.heap.size w3 W → Ints W B rs) := fun W h1 => HB3.out.below h1
    clear hvw
    have hF3 : w2.heap.size < w3.heap.size := hs3'
    clear hs3'
    generalize hFg : w3.heap.size = F at *
    have HFE := Lib.hid hFg; clear hFg
    generalize w4.heap.size + 1 = B9 at *
    generalize w4.heap.size = M at *
    have hplen := places_len ws
    go_loopw [10, 44] (fun lv i wr => ∃ (j : Nat) (ord : List Nat) (xs : List Int) (v : Value), i = .int .i64 j ∧ j ≤ rs.length ∧ ord = visits [] (rs.take j) ∧ Scan ws ord [] 0 0 xs ∧ Tgt ord (rs.take j) ∧ MS w3 wr F B9 g M ws ord xs v lv ((rs.take j).map (nowO (toO ws ord))) (.slice none 0 0) []) (fun _ i _ => rs.length - (intOf i).toNat)
    case atStart => exact ⟨0, [], _, _, rfl, Nat.zero_le _, rfl, scan_start ws, tgt_nil _, HMS.out⟩
    case round =>
      obtain ⟨j, ord, xs, v, rfl, hj, hord, hsc, htg, hm⟩ := hrel
      have HORD := Lib.hid hord; have HSC := Lib.hid hsc; have HTG := Lib.hid htg; have HM := Lib.hid hm
      clear hord hsc htg hm
      by_cases hjl : j < rs.length
      · obtain ⟨b', o', rfl, hb', hrow'⟩ := HBW.out _ HM.out.below (by omega)
        have hcell := hrow' j hjl
        have hfj := HFIT.out (nth rs j) (by rw [nth_eq hjl]; exact List.getElem_mem _)
        have HFJ := Lib.hid hfj
        obtain ⟨f1, f2⟩ := fits_bd hfj
        have hTK := Lib.hid (take_slot hjl)
        clear hrow' hfj
        go_wp2_with fail
        refine (mnow_any ws F B9 g M ord xs v (nth rs j) wr HM.out.mov (fun W hb => HVW.out wr W HM.out.below hb) HOK.out HW.out HSC.out.ordr.nodup HSC.out.ordr.pl HFJ.out HM.out.size).mono ?_
        rintro e w6 ⟨v', rfl, hm6, ht6, hf6⟩
        have HM6 := Lib.hid (HM.out.now hm6 ht6 hf6)
        have HSC6 := Lib.hid (HSC.out.visit0 HFJ.out)
        have HTG6 := Lib.hid (HTG.out.snoc (nth rs j))
        have HMV := Lib.hid (map_visit (ws := ws) HTG.out (nth rs j))
        have hll : ((rs.take j).map (nowO (toO ws ord))).length + [nowO (toO ws (visit ord (nth rs j))) (nth rs j)].length ≤ 1000000000 := by simp; omega
        have hzz : F ≤ (w6.alloc (.cells #[.int .i64 (nowO (toO ws (visit ord (nth rs j))) (nth rs j))] 3)).heap.size := by rw [World.size_alloc]; have := HM6.out.size; omega
        have HIN := Lib.hid (ints_new w6 [nowO (toO ws (visit ord (nth rs j))) (nth rs j)])
        clear hm6 ht6 hf6
        go_wp2_with (at_builtin; refine wpList_joinM rfl _ _ rfl F _ ((rs.take j).map (nowO (toO ws ord))) rfl (HM6.out.l.alloc _) (some ⟨_, 0, none⟩) 1 [nowO (toO ws (visit ord (nth rs j))) (nth rs j)] rfl HIN.out hll hzz ?_; intro A8 n8 c8 w8 hown8 hgr8 hat8; have HM8 := Lib.hid (HM6.out.pushl _ hown8 hgr8 hat8); clear hown8 hgr8 hat8)
        go_roundw
        case rel =>
          refine ⟨j + 1, visit ord (nth rs j), _, v', by go_num, by omega, ?_, HSC6.out, by rw [hTK.out]; exact HTG6.out, ?_⟩
          · rw [hTK.out, visits_snoc, HORD.out]
          · rw [hTK.out, List.map_append, HMV.out]; exact HM8.out
        case measure => simp [intOf]; omega
      · obtain rfl : j = rs.length := by omega
        rw [List.take_length] at HORD HTG HM
        obtain ⟨A10, n10, c10, rfl, -⟩ := HM.out.l.form3
        have hch : ord = chen ws rs 0 := HORD.out
        have HCH := Lib.hid hch
        clear hch HORD
        go_wp2_with fail
        go_loopw [11, 14] (fun kv i wr => ∃ (k p0 : Nat) (ord : List Nat) (xs : List Int) (v : Value), i = .int .i64 (endO ws (ord.take k) 2 : Nat) ∧ k ≤ ord.length ∧ ord = chen ws rs k ∧ Scan ws ord (ord.take k) p0 0 xs ∧ Tgt ord rs ∧ MS w3 wr F B9 g M ws ord xs v (.slice A10 n10 c10) (rs.map (nowO (toO ws ord))) kv (weakPos ws ord (weakL ws (ord.take k)))) (fun _ i _ => 3000 - (intOf i).toNat)
        case atStart => exact ⟨0, 0, ord, xs, v, rfl, Nat.zero_le _, HCH.out, HSC.out, HTG.out, HM.out⟩
        case round =>
          clear HSC HTG HM HCH ord xs v
          obtain ⟨k, p0, ord, xs, v, rfl, hk, hch, hsc, htg, hm⟩ := hrel
          have HCH := Lib.hid hch; have HSC := Lib.hid hsc; have HTG := Lib.hid htg; have HM := Lib.hid hm
          have hlenx : xs.length = endO ws ord 2 := hm.mov.len
          have hes := endO_small HOK.out hsc.ordr.nodup hsc.ordr.pl
          have hge := endO_ge ws ord 2
          obtain ⟨G, nG, cG, hvG, hGn, hGc⟩ : ∃ G n c, v = .slice (some ⟨G, 0, none⟩) n c ∧ n = xs.length ∧ n ≤ c := by
            obtain ⟨A, n, c, hv, hn, hc, -⟩ := hm.mov.own.form3
            subst hv
            obtain ⟨G, rfl, -, -, -, -⟩ := hm.mov.own.some_ (by omega)
            exact ⟨G, n, c, rfl, hn, hc⟩
          subst hvG
          have hlt : k < ord.length → endO ws (ord.take k) 2 < endO ws ord 2 ∧ endO ws (ord.take k) 2 + szT ws (ord.getD k 0) ≤ endO ws ord 2 := fun hkl => by
            have h1 := toO_at (ws := ws) hsc.ordr.nodup hkl
            have h2 := offO_in ws ord 2 (List.getElem_mem hkl)
            rw [getD_el hkl]
            have h3 : toO ws ord ord[k] = offO ws ord 2 ord[k] := rfl
            have h4 : szT ws ord[k] = 3 + slotsN ws ord[k] := rfl
            omega
          have HLT := Lib.hid hlt
          have HLX := Lib.hid hlenx
          have HGN := Lib.hid hGn
          obtain ⟨y1, y2, y3, yf1, yf2, yf3, -⟩ := hm.mov.blk.f3
          clear hch hsc htg hm hlt hlenx hGn
          by_cases hkl : k < ord.length
          · obtain ⟨hl1, hl2⟩ := HLT.out hkl
            have hto := toO_at (ws := ws) HSC.out.ordr.nodup hkl
            rw [← getD_el hkl] at hto
            have hpm : ord.getD k 0 ∈ ord := by rw [getD_el hkl]; exact List.getElem_mem hkl
            obtain ⟨ht1, ht2, ht3⟩ := hto
            have hch1 : chen ws rs (k + 1) = visits ord (holdsL ws (ord.getD k 0)) := by rw [chen, ← HCH.out, if_pos hkl]
            have HCH1 := Lib.hid hch1
            clear hch1
            generalize ord.getD k 0 = p at *
            have HT1 := Lib.hid ht1; have HT2 := Lib.hid ht2; have HT3 := Lib.hid ht3; have HPM := Lib.hid hpm
            have hpl := HSC.out.ordr.pl p hpm
            have HPL := Lib.hid hpl
            obtain ⟨p2, pl, pb⟩ := places_mem hpl
            obtain ⟨m1, m2, m3, m4, m5⟩ := not_bad pb
            have HBAD := Lib.hid pb
            have hszp : szT ws p = 3 + slotsN ws p := rfl
            have hsd : ((slotsN ws p : Nat) : Int) = nth ws (p + 2) / 4 := by have : slotsN ws p = (nth ws (p + 2) / 4).toNat := rfl; omega
            have HSD := Lib.hid hsd
            have HSC1 := Lib.hid (HSC.out.other ht2)
            have hcl := HM.out.mov.own.cell (endO ws (ord.take k) 2) (by have := HLX.out; omega)
            have hraw := HSC1.out.raw (i := 0) hpm (by omega) (Nat.le_refl _)
            rw [ht1, Nat.add_zero, Nat.add_zero] at hraw
            rw [hraw] at hcl
            have hcf := class_fits HOK.out hpl
            have HCF := Lib.hid hcf
            obtain ⟨f1, f2⟩ := fits_bd hcf
            have g1 : (endO ws (ord.take k) 2 : Int) < (nG : Nat) := by have := HLX.out; have := HGN.out; omega
            have HAT := Lib.hid (Eq.refl (endO ws (ord.take k) 2))
            clear ht1 ht2 ht3 hpm hpl pb hsd hraw hcf
            generalize hATe : endO ws (ord.take k) 2 = AT at *
            have HATE := Lib.hid hATe
            clear hATe
            go_wp2_with fail
            refine (mnow_any ws F B9 g M ord xs _ (nth ws p) wr HM.out.mov (fun W hb => HVW.out wr W HM.out.below hb) HOK.out HW.out HSC.out.ordr.nodup HSC.out.ordr.pl HCF.out HM.out.size).mono ?_
            rintro e w6 ⟨v1, rfl, hm6, ht6, hf6⟩
            have hM6 := HM.out.now hm6 ht6 hf6
            have HSC6 := Lib.hid (HSC1.out.visit HPM.out HCF.out)
            have HTG6 := Lib.hid (HTG.out.visit (nth ws p))
            have HMV := Lib.hid (map_visit (ws := ws) HTG.out (nth ws p))
            have HWV := Lib.hid (weakPos_visit (ws := ws) (l := weakL ws (ord.take k)) (fun x hx => List.mem_of_mem_take (weakL_mem.1 hx).1) (nth ws p))
            have hp6 : p ∈ visit ord (nth ws p) := visit_keep HPM.out
            have hto6 : toO ws (visit ord (nth ws p)) p = AT := (toO_visit HPM.out _).trans HT1.out
            have hpre6 : (visit ord (nth ws p)).take k = ord.take k := pre_take (visit_pre ord _) hk
            rw [← HMV.out, ← HWV.out] at hM6
            have HP6 := Lib.hid hp6; have HTO6 := Lib.hid hto6; have HPRE6 := Lib.hid hpre6
            have hst6 : kd (nth ws p) = 3 → pcl (nth ws p) ∈ visit ord (nth ws p) := fun hk3 => visit_here hk3
            have HST6 := Lib.hid hst6
            have hchx : visits ord (holdsL ws p) = visits (visit ord (nth ws p)) (if formOf ws p = 0 then slotsL ws p else []) := rfl
            have HCHX := Lib.hid (HCH1.out.trans hchx)
            have hlen6 : ord.length ≤ (visit ord (nth ws p)).length := (visit_pre ord _).length_le
            have HLEN6 := Lib.hid hlen6
            have HM6 := Lib.hid hM6
            clear hm6 ht6 hf6 hM6 hp6 hto6 hpre6 hst6 hchx hlen6 y1 y2 y3 yf1 yf2 yf3 hcl
            have HPX : Hid (pushL ws ord (nth ws p) xs = pushL ws ord (nth ws p) xs) := rfl
            generalize hOe : visit ord (nth ws p) = ord1 at *
            have HOE := Lib.hid hOe; clear hOe
            have hX : MS w3 w6 F B9 g M ws ord1 (pushL ws ord (nth ws p) xs) v1 (.slice A10 n10 c10) (rs.map (nowO (toO ws ord1))) _ (weakPos ws ord1 (weakL ws (ord.take k))) := HM6.out
            have HX6 := Lib.hid hX
            clear hX HM6 HPX
            generalize pushL ws ord (nth ws p) xs = xs1 at *
            have hlx1 : xs1.length = endO ws ord1 2 := HX6.out.mov.len
            have hin1 : AT + szT ws p ≤ xs1.length := by
              have h1 := offO_in ws ord1 2 HP6.out
              have h2 : offO ws ord1 2 p = AT := HTO6.out
              omega
            obtain ⟨G1, n1, c1, hv1, hn1, hc1⟩ : ∃ G n c, v1 = .slice (some ⟨G, 0, none⟩) n c ∧ n = xs1.length ∧ n ≤ c := by
              obtain ⟨A, n, c, hv, hn, hc, -⟩ := HX6.out.mov.own.form3
              subst hv
              obtain ⟨G, rfl, -, -, -, -⟩ := HX6.out.mov.own.some_ (by omega)
              exact ⟨G, n, c, rfl, hn, hc⟩
            subst hv1
            obtain ⟨y1, y2, y3, yf1, yf2, yf3, -⟩ := HX6.out.mov.blk.f3
            have hcl := HX6.out.mov.own.cell AT (by omega)
            have hfz := HX6.out.mov.own.frz AT
            have HX7 := Lib.hid (HX6.out.put AT (nowO (toO ws ord1) (nth ws p)))
            have hsc7 := HSC6.out.put HP6.out (j := 0) (by omega) (.inl rfl) HST6.out
            simp only [Nat.add_zero] at hsc7
            rw [HTO6.out] at hsc7
            have hes1 := endO_small HOK.out HSC6.out.ordr.nodup HSC6.out.ordr.pl
            have hhd := hsc7.head HP6.out
            rw [HTO6.out] at hhd
            have HSC7 := Lib.hid hsc7
            have HHD := Lib.hid hhd
            have HN1 := Lib.hid hn1
            have HLX1 := Lib.hid hlx1
            have g2 : (AT : Int) < (n1 : Nat) := by omega
            have hn1b : n1 ≤ 2000 := by omega
            have hin2 : AT + szT ws p ≤ n1 := by omega
            clear hsc7 hhd hn1 hlx1 hin1
            go_wp2_with fail
            generalize hw7 : (w6.setCell ⟨G1, AT, none⟩ (.int .i64 (nowO (toO ws ord1) (nth ws p)))) = w7 at *
            clear hw7 y1 y2 y3 yf1 yf2 yf3 hcl hfz g1 g2
            obtain ⟨y1, y2, y3, yf1, yf2, yf3, -⟩ := HX7.out.mov.blk.f3
            have hhc := HX7.out.mov.own.cell (AT + 2) (by rw [List.length_set, ← HN1.out]; omega)
            rw [HHD.out] at hhc
            obtain ⟨u1, u2⟩ := HW.out (p + 2)
            have e1 : IntKind.i64.wrap ((AT : Int) + 2) = (AT : Int) + 2 := IntWalk.i64_in _ (by omega)
            have e2 : ((AT : Int) + 2).toNat = AT + 2 := by omega
            have e3 : 0 ≤ (AT : Int) + 2 := by omega
            have e4 : (AT : Int) + 2 < (n1 : Int) := by omega
            have e5 : IntKind.i64.wrap ((AT : Int) + 3) = (AT : Int) + 3 := IntWalk.i64_in _ (by omega)
            have e6 : IntKind.i64.wrap ((AT : Int) + 3 + nth ws (p + 2) / 4) = (AT : Int) + 3 + nth ws (p + 2) / 4 := IntWalk.i64_in _ (by omega)
            go_quiet (fail)
            clear e1 e2 e3 e4 e5 e6 hhc y1 y2 y3 yf1 yf2 yf3
            go_wp2_with fail
            have hpre1 : ord <+: ord1 := by rw [← HOE.out]; exact visit_pre ord _
            have HPRE1 := Lib.hid hpre1
            have hsc3 : Scan ws ord1 (ord.take k) p 3 (xs1.set AT (nowO (toO ws ord1) (nth ws p))) := HSC7.out.pass (by omega) (fun i h1 h2 h3 h4 => by rcases h4 with h4 | ⟨h4, _⟩ <;> omega) (by omega)
            have HSC3 := Lib.hid hsc3
            have HF4 : Hid (formOf ws p = nth ws (p + 2) % 4) := rfl
            have hsdb : AT + 3 + slotsN ws p ≤ n1 := by omega
            clear hpre1 hsc3
            generalize (xs1.set AT (nowO (toO ws ord1) (nth ws p))) = xs2 at *
            by_cases hf0 : formOf ws p = 0
            · have hm0 : (nth ws (p + 2) % 4 == 0) = true := by have h9 : nth ws (p + 2) % 4 = 0 := hf0; simpa using h9
              have hch2 : chen ws rs (k + 1) = visits ord1 (slotsL ws p) := by rw [HCHX.out, if_pos hf0]
              have HCH2 := Lib.hid hch2; have HF0 := Lib.hid hf0
              have HSLEN := Lib.hid (slotsL_len HBAD.out)
              clear hf0 hch2
              go_loopw [11, 18] (fun kv i wr => ∃ (j : Nat) (ord2 : List Nat) (xs3 : List Int) (v2 : Value), i = .int .i64 ((AT + 3 + j : Nat) : Int) ∧ j ≤ slotsN ws p ∧ ord2 = visits ord1 ((slotsL ws p).take j) ∧ Scan ws ord2 (ord.take k) p (3 + j) xs3 ∧ Tgt ord2 rs ∧ MS w3 wr F B9 g M ws ord2 xs3 v2 (.slice A10 n10 c10) (rs.map (nowO (toO ws ord2))) kv (weakPos ws ord2 (weakL ws (ord.take k)))) (fun _ i _ => 3000 - (intOf i).toNat)
              case atStart => exact ⟨0, ord1, xs2, _, by go_num, Nat.zero_le _, rfl, HSC3.out, HTG6.out, HX7.out.drewN _⟩
              case round =>
                obtain ⟨j, ord2, xs3, v2, rfl, hj, hord2, hsc9, htg9, hm9⟩ := hrel
                have hpre2 : ord1 <+: ord2 := by rw [hord2]; exact visits_pre _ _
                have hp9 : p ∈ ord2 := hpre2.subset HP6.out
                have hto9 : toO ws ord2 p = AT := by rw [hord2, toO_visits _ HP6.out]; exact HTO6.out
                have hpre9 : ord <+: ord2 := HPRE1.out.trans hpre2
                have HPRE9 := Lib.hid hpre9; have HP9 := Lib.hid hp9; have HTO9 := Lib.hid hto9; have HORD2 := Lib.hid hord2; have HSC9 := Lib.hid hsc9; have HTG9 := Lib.hid htg9; have HM9 := Lib.hid hm9
                clear hpre2 hp9 hto9 hpre9 hord2 hsc9 htg9 hm9
                by_cases hjl : j < slotsN ws p
                · have hjl' : (AT : Int) + 3 + j < (AT : Int) + 3 + nth ws (p + 2) / 4 := by have := HSD.out; omega
                  have hin3 : AT + szT ws p ≤ xs3.length := by
                    have h1 := offO_in ws ord2 2 HP9.out
                    have h2 : offO ws ord2 2 p = AT := HTO9.out
                    have h3 := HM9.out.mov.len
                    omega
                  obtain ⟨G2, n2, c2, hv2, hn2, hc2⟩ : ∃ G n c, v2 = .slice (some ⟨G, 0, none⟩) n c ∧ n = xs3.length ∧ n ≤ c := by
                    obtain ⟨A, n, c, hv, hn, hc, -⟩ := HM9.out.mov.own.form3
                    subst hv
                    obtain ⟨G, rfl, -, -, -, -⟩ := HM9.out.mov.own.some_ (by omega)
                    exact ⟨G, n, c, rfl, hn, hc⟩
                  subst hv2
                  obtain ⟨y1, y2, y3, yf1, yf2, yf3, -⟩ := HM9.out.mov.blk.f3
                  have hcl := HM9.out.mov.own.cell (AT + 3 + j) (by omega)
                  have hraw := HSC9.out.raw (i := 3 + j) HP9.out (by omega) (Nat.le_refl _)
                  rw [HTO9.out, ← Nat.add_assoc, ← Nat.add_assoc] at hraw
                  rw [hraw] at hcl
                  have hcf := slot_fits HOK.out HPL.out (by rw [HF0.out]; decide) hjl
                  have HCF9 := Lib.hid hcf
                  obtain ⟨v11, v12⟩ := fits_bd hcf
                  have hes9 := endO_small HOK.out HSC9.out.ordr.nodup HSC9.out.ordr.pl
                  have hn2b : n2 ≤ 2000 := by have := HM9.out.mov.len; omega
                  have g1 : (AT : Int) + 3 + j < (n2 : Nat) := by omega
                  have hTK := Lib.hid (take_slot (xs := slotsL ws p) (k := j) (by have := HSLEN.out; omega))
                  have hNS := Lib.hid (slotsL_nth HBAD.out hjl)
                  clear hraw hcf
                  go_wp2_with fail
                  refine (mnow_any ws F B9 g M ord2 xs3 _ (nth ws (p + 3 + j)) wr HM9.out.mov (fun W hb => HVW.out wr W HM9.out.below hb) HOK.out HW.out HSC9.out.ordr.nodup HSC9.out.ordr.pl HCF9.out HM9.out.size).mono ?_
                  rintro e w10 ⟨v3, rfl, hm10, ht10, hf10⟩
                  have hM10 := HM9.out.now hm10 ht10 hf10
                  have hsc10 := HSC9.out.visit HP9.out HCF9.out
                  have HTG10 := Lib.hid (HTG9.out.visit (nth ws (p + 3 + j)))
                  have hmv := map_visit (ws := ws) HTG9.out (nth ws (p + 3 + j))
                  have hwv := weakPos_visit (ws := ws) (ord := ord2) (l := weakL ws (ord.take k)) (fun x hx => HPRE9.out.subset (List.mem_of_mem_take (weakL_mem.1 hx).1)) (nth ws (p + 3 + j))
                  rw [← hmv, ← hwv] at hM10
                  have hst10 : kd (nth ws (p + (3 + j))) = 3 → pcl (nth ws (p + (3 + j))) ∈ visit ord2 (nth ws (p + 3 + j)) := fun hk3 => by rw [← Nat.add_assoc] at hk3 ⊢; exact visit_here hk3
                  have hp10 : p ∈ visit ord2 (nth ws (p + 3 + j)) := visit_keep HP9.out
                  have hto10 : toO ws (visit ord2 (nth ws (p + 3 + j))) p = AT := (toO_visit HP9.out _).trans HTO9.out
                  have hsc11 := hsc10.put hp10 (j := 3 + j) (by omega) (.inr ⟨by omega, HF0.out⟩) hst10
                  rw [hto10, ← Nat.add_assoc, ← Nat.add_assoc] at hsc11
                  have hord10 : visit ord2 (nth ws (p + 3 + j)) = visits ord1 ((slotsL ws p).take (j + 1)) := by rw [hTK.out, visits_snoc, ← HORD2.out, hNS.out]
                  have hM10' : MS w3 w10 F B9 g M ws (visit ord2 (nth ws (p + 3 + j))) (pushL ws ord2 (nth ws (p + 3 + j)) xs3) v3 (.slice A10 n10 c10) (rs.map (nowO (toO ws (visit ord2 (nth ws (p + 3 + j)))))) _ (weakPos ws (visit ord2 (nth ws (p + 3 + j))) (weakL ws (ord.take k))) := hM10
                  have HM10 := Lib.hid hM10'; have HSC11 := Lib.hid hsc11; have HP10 := Lib.hid hp10; have HTO10 := Lib.hid hto10; have HORD10 := Lib.hid hord10
                  clear hM10 hM10' hsc10 hsc11 hmv hwv hst10 hp10 hto10 hord10 hm10 ht10 hf10 y1 y2 y3 yf1 yf2 yf3 hcl g1
                  generalize visit ord2 (nth ws (p + 3 + j)) = ord3 at *
                  generalize pushL ws ord2 (nth ws (p + 3 + j)) xs3 = xs4 at *
                  have hin4 : AT + szT ws p ≤ xs4.length := by
                    have h1 := offO_in ws ord3 2 HP10.out
                    have h2 : offO ws ord3 2 p = AT := HTO10.out
                    have h3 := HM10.out.mov.len
                    omega
                  obtain ⟨G3, n3, c3, hv3, hn3, hc3⟩ : ∃ G n c, v3 = .slice (some ⟨G, 0, none⟩) n c ∧ n = xs4.length ∧ n ≤ c := by
                    obtain ⟨A, n, c, hv, hn, hc, -⟩ := HM10.out.mov.own.form3
                    subst hv
                    obtain ⟨G, rfl, -, -, -, -⟩ := HM10.out.mov.own.some_ (by omega)
                    exact ⟨G, n, c, rfl, hn, hc⟩
                  subst hv3
                  obtain ⟨y1, y2, y3, yf1, yf2, yf3, -⟩ := HM10.out.mov.blk.f3
                  have hcl := HM10.out.mov.own.cell (AT + 3 + j) (by omega)
                  have hfz := HM10.out.mov.own.frz (AT + 3 + j)
                  have HM11 := Lib.hid (HM10.out.put (AT + 3 + j) (nowO (toO ws ord3) (nth ws (p + 3 + j))))
                  have g1 : (AT : Int) + 3 + j < (n3 : Nat) := by omega
                  go_wp2_with fail
                  go_roundw
                  case rel => exact ⟨j + 1, ord3, _, _, by go_num, by omega, HORD10.out, HSC11.out, HTG10.out, HM11.out⟩
                  case measure => simp [intOf]; omega
                · obtain rfl : j = slotsN ws p := by omega
                  have hjl' : ¬ (AT : Int) + 3 + (slotsN ws p : Nat) < (AT : Int) + 3 + nth ws (p + 2) / 4 := by have := HSD.out; omega
                  have hsl : (slotsL ws p).take (slotsN ws p) = slotsL ws p := by rw [← HSLEN.out, List.take_length]
                  have hch9 : chen ws rs (k + 1) = ord2 := by rw [HCH2.out, HORD2.out, hsl]
                  have hsc12 : Scan ws ord2 (ord.take k) p (szT ws p) xs3 := HSC9.out
                  obtain ⟨r1, r2, r3, r4⟩ := scan_end HPRE9.out hkl HT3.out HATE.out hsc12 HP9.out
                  rw [weakP_no (by rw [HF0.out]; decide), List.append_nil] at r4
                  have R1 := Lib.hid r1; have R2 := Lib.hid r2; have R3 := Lib.hid r3; have R4 := Lib.hid r4; have HCH9 := Lib.hid hch9
                  clear r1 r2 r3 r4 hch9 hsc12 hsl
                  go_wp2
                  go_roundw
                  case rel => exact ⟨k + 1, 0, ord2, xs3, _, by rw [R2.out]; have := HSD.out; congr 1; omega, R3.out, HCH9.out.symm, R1.out, HTG9.out, by rw [R4.out]; exact HM9.out⟩
                  case measure => simp [intOf]; have := HSD.out; omega
            · by_cases hf2 : formOf ws p = 2
              · have hm0 : (nth ws (p + 2) % 4 == 0) = false := by have h9 : ¬ nth ws (p + 2) % 4 = 0 := hf0; simpa using h9
                have hm2 : (nth ws (p + 2) % 4 == 2) = true := by have h9 : nth ws (p + 2) % 4 = 2 := hf2; simpa using h9
                have hch2 : chen ws rs (k + 1) = ord1 := by rw [HCHX.out, if_neg hf0]; rfl
                have hsc4 : Scan ws ord1 (ord.take k) p (szT ws p) xs2 := HSC3.out.pass (by omega) (fun i h1 h2 h3 h4 => by rcases h4 with h4 | ⟨_, h4⟩; omega; exact hf0 h4) (Nat.le_refl _)
                obtain ⟨r1, r2, r3, r4⟩ := scan_end HPRE1.out hkl HT3.out HATE.out hsc4 HP6.out
                have R1 := Lib.hid r1; have R2 := Lib.hid r2; have R3 := Lib.hid r3; have R4 := Lib.hid r4; have HCH2 := Lib.hid hch2
                have HWT : Hid (∀ j, j < slotsN ws p → (weakP ws p).take (j + 1) = (weakP ws p).take j ++ [(p, 3 + j)]) := fun j hj => weakP_take hf2 hj
                have HWL : Hid ((weakP ws p).take (slotsN ws p) = weakP ws p) := by show _ = _; rw [← weakP_len hf2, List.take_length]
                have hwlen : (weakL ws (ord.take k)).length ≤ 200000 := by
                  have h1 := HSC.out.ordr.few
                  have h2 := weakL_few (D := ord.take k) (fun q hq => HSC.out.ordr.bad q (List.mem_of_mem_take hq))
                  have h3 : (ord.take k).length ≤ ord.length := by rw [List.length_take]; omega
                  omega
                clear hf0 hf2 r1 r2 r3 r4 hch2 hsc4
                go_loopw [11, 18] (fun kv i wr => ∃ (j : Nat), i = .int .i64 ((AT + 3 + j : Nat) : Int) ∧ j ≤ slotsN ws p ∧ MS w3 wr F B9 g M ws ord1 xs2 (.slice (some ⟨G1, 0, none⟩) n1 c1) (.slice A10 n10 c10) (rs.map (nowO (toO ws ord1))) kv (weakPos ws ord1 (weakL ws (ord.take k) ++ (weakP ws p).take j))) (fun _ i _ => 3000 - (intOf i).toNat)
                case atStart => exact ⟨0, by go_num, Nat.zero_le _, by rw [List.take_zero, List.append_nil]; exact HX7.out.drewN _⟩
                case round =>
                  obtain ⟨j, rfl, hj, hm⟩ := hrel
                  have HM9 := Lib.hid hm; clear hm
                  by_cases hjl : j < slotsN ws p
                  · have hjl' : (AT : Int) + 3 + j < (AT : Int) + 3 + nth ws (p + 2) / 4 := by have := HSD.out; omega
                    have hll : (weakPos ws ord1 (weakL ws (ord.take k) ++ (weakP ws p).take j)).length + [(AT : Int) + 3 + j].length ≤ 1000000000 := by
                      have : ((weakP ws p).take j).length ≤ j := List.length_take_le _ _
                      simp [weakPos]; omega
                    have hzz : F ≤ (wr.alloc (.cells #[.int .i64 ((AT : Int) + 3 + j)] 3)).heap.size := by rw [World.size_alloc]; have := HM9.out.size; omega
                    have HIN := Lib.hid (ints_new wr [(AT : Int) + 3 + j])
                    have happ : weakPos ws ord1 (weakL ws (ord.take k) ++ (weakP ws p).take (j + 1)) = weakPos ws ord1 (weakL ws (ord.take k) ++ (weakP ws p).take j) ++ [(AT : Int) + 3 + j] := by
                      rw [HWT.out j hjl, ← List.append_assoc, weakPos_app]
                      congr 1
                      unfold weakPos
                      simp only [List.map_cons, List.map_nil, HTO6.out]
                      congr 1
                      omega
                    have HAPP := Lib.hid happ
                    clear happ
                    go_wp2_with (at_builtin; refine wpList_joinM rfl _ _ rfl F _ _ rfl (HM9.out.k.alloc _) (some ⟨_, 0, none⟩) 1 [(AT : Int) + 3 + j] rfl HIN.out hll hzz ?_; intro A8 n8 c8 w8 hown8 hgr8 hat8; have HM8 := Lib.hid (HM9.out.pushk _ hown8 hgr8 hat8); clear hown8 hgr8 hat8)
                    go_roundw
                    case rel => exact ⟨j + 1, by go_num, by omega, by rw [HAPP.out]; exact HM8.out⟩
                    case measure => simp [intOf]; omega
                  · obtain rfl : j = slotsN ws p := by omega
                    have hjl' : ¬ (AT : Int) + 3 + (slotsN ws p : Nat) < (AT : Int) + 3 + nth ws (p + 2) / 4 := by have := HSD.out; omega
                    go_wp2
                    go_roundw
                    case rel => exact ⟨k + 1, 0, ord1, xs2, _, by rw [R2.out]; have := HSD.out; congr 1; omega, R3.out, HCH2.out.symm, R1.out, HTG6.out, by rw [R4.out]; have h9 := HM9.out; rw [HWL.out] at h9; exact h9⟩
                    case measure => simp [intOf]; have := HSD.out; omega
              · have hm0 : ¬ nth ws (p + 2) % 4 = 0 := hf0
                have hm2 : ¬ nth ws (p + 2) % 4 = 2 := hf2
                have hch2 : chen ws rs (k + 1) = ord1 := by rw [HCHX.out, if_neg hf0]; rfl
                have hsc4 : Scan ws ord1 (ord.take k) p (szT ws p) xs2 := HSC3.out.pass (by omega) (fun i h1 h2 h3 h4 => by rcases h4 with h4 | ⟨_, h4⟩; omega; exact hf0 h4) (Nat.le_refl _)
                obtain ⟨r1, r2, r3, r4⟩ := scan_end HPRE1.out hkl HT3.out HATE.out hsc4 HP6.out
                rw [weakP_no hf2, List.append_nil] at r4
                have R1 := Lib.hid r1; have R2 := Lib.hid r2; have R3 := Lib.hid r3; have R4 := Lib.hid r4; have HCH2 := Lib.hid hch2
                clear hf0 hf2 r1 r2 r3 r4 hch2 hsc4
                go_loopw [11, 18] (fun kv i wr => ∃ (j : Nat), i = .int .i64 ((AT + 3 + j : Nat) : Int) ∧ j ≤ slotsN ws p ∧ MS w3 wr F B9 g M ws ord1 xs2 (.slice (some ⟨G1, 0, none⟩) n1 c1) (.slice A10 n10 c10) (rs.map (nowO (toO ws ord1))) kv (weakPos ws ord1 (weakL ws (ord.take k)))) (fun _ i _ => 3000 - (intOf i).toNat)
                case atStart => exact ⟨0, by go_num, Nat.zero_le _, HX7.out.drewN _⟩
                case round =>
                  obtain ⟨j, rfl, hj, hm⟩ := hrel
                  have HM9 := Lib.hid hm; clear hm
                  by_cases hjl : j < slotsN ws p
                  · have hjl' : (AT : Int) + 3 + j < (AT : Int) + 3 + nth ws (p + 2) / 4 := by have := HSD.out; omega
                    go_wp2
                    go_roundw
                    case rel => exact ⟨j + 1, by go_num, by omega, HM9.out⟩
                    case measure => simp [intOf]; omega
                  · obtain rfl : j = slotsN ws p := by omega
                    have hjl' : ¬ (AT : Int) + 3 + (slotsN ws p : Nat) < (AT : Int) + 3 + nth ws (p + 2) / 4 := by have := HSD.out; omega
                    go_wp2
                    go_roundw
                    case rel => exact ⟨k + 1, 0, ord1, xs2, _, by rw [R2.out]; have := HSD.out; congr 1; omega, R3.out, HCH2.out.symm, R1.out, HTG6.out, by rw [R4.out]; exact HM9.out⟩
                    case measure => simp [intOf]; have := HSD.out; omega
          · obtain rfl : k = ord.length := by omega
            have hsc := HSC.out
            have hkm := HM.out
            rw [List.take_length] at hsc hkm
            have hpw0 := weak_start hsc (fun q hq => hq)
            obtain ⟨A11, n11, c11, rfl, hn11, -, -⟩ := hkm.k.form3
            have hwpl : (weakPos ws ord (weakL ws ord)).length = (weakL ws ord).length := by unfold weakPos; simp
            have g1 : ¬ (endO ws (ord.take ord.length) 2 : Int) < (nG : Nat) := by rw [List.take_length]; have := HLX.out; have := HGN.out; omega
            have hORD : OrdOf ws rs ord := by
              have := chen_ord (ws := ws) (rs := rs) (k := ord.length) (by rw [← HCH.out])
              rwa [← HCH.out] at this
            have HORD := Lib.hid hORD; have HPW0 := Lib.hid hpw0; have HKM := Lib.hid hkm; have HN11 := Lib.hid (hn11.trans hwpl); have HWPL := Lib.hid hwpl; have HOR := Lib.hid hsc.ordr
            have hn11b : n11 ≤ 200000 := by
              have h1 := weakL_few hsc.ordr.bad
              have h2 := hsc.ordr.few
              omega
            clear hsc hkm hpw0 hn11 hwpl hORD
            generalize endO ws (ord.take ord.length) 2 = AT at *
            go_wp2_with fail
            clear y1 y2 y3 yf1 yf2 yf3 g1
            go_loopw [134] (fun i wr => ∃ (t : Nat) (xs : List Int), i = .int .i64 t ∧ t ≤ n11 ∧ PartW ws ord (weakC ws ord t) xs ∧ MS w3 wr F B9 g M ws ord xs (.slice (some ⟨G, 0, none⟩) nG cG) (.slice A10 n10 c10) (rs.map (nowO (toO ws ord))) (.slice A11 n11 c11) (weakPos ws ord (weakL ws ord))) (fun i _ => n11 - (intOf i).toNat)
            case atStart => exact ⟨0, xs, rfl, Nat.zero_le _, HPW0.out, HKM.out⟩
            case round =>
              clear HPW0 HKM HGN HLX HLT HSC HM
              obtain ⟨t, xs, rfl, ht, hpw, hm⟩ := hrel
              have HPW := Lib.hid hpw; have HM := Lib.hid hm
              have hgn : nG ≤ xs.length := Nat.le_of_eq hm.mov.own.len
              have hgn' : xs.length ≤ nG := Nat.le_of_eq hm.mov.own.len.symm
              have hxl : xs.length ≤ endO ws ord 2 := Nat.le_of_eq hm.mov.len
              have hxl' : endO ws ord 2 ≤ xs.length := Nat.le_of_eq hm.mov.len.symm
              have hes := endO_small HOK.out HOR.out.nodup HOR.out.pl
              obtain ⟨y1, y2, y3, yf1, yf2, yf3, -⟩ := hm.mov.blk.f3
              by_cases htl : t < n11
              · have htl' : t < (weakL ws ord).length := by have := HN11.out; omega
                obtain ⟨q, i, hqi, hq, hi, hf2, hi3, hraw, hstep⟩ := weak_step HOR.out.nodup hpw htl'
                have hpos := weakPos_nth (ws := ws) (ord := ord) htl' hqi
                obtain ⟨b9, o9, hA9, -, hr9⟩ := (own_ints' hm.k).1 (by have := HWPL.out; omega)
                subst hA9
                have hc9 := hr9 t (by have := HWPL.out; omega)
                rw [hpos] at hc9
                have hpb := pos_lt (ws := ws) hq hi
                have hcl := hm.mov.own.cell (toO ws ord q + i) (by omega)
                rw [hraw] at hcl
                have hfz := hm.mov.own.frz (toO ws ord q + i)
                have hsz : szT ws q = 3 + slotsN ws q := rfl
                have hfit := slot_fits HOK.out (HOR.out.pl q hq) (k := i - 3) (by omega) (by omega)
                rw [show q + 3 + (i - 3) = q + i from by omega] at hfit
                obtain ⟨v11, v12⟩ := fits_bd hfit
                have hput := hm.put (toO ws ord q + i) (nowO (toO ws ord) (nth ws (q + i)))
                obtain ⟨nm, hmap⟩ := hm.mov.map_
                have HSTEP := Lib.hid hstep; have HPUT := Lib.hid hput; have HRAW := Lib.hid hraw
                have g1 : ((toO ws ord q + i : Nat) : Int) < (nG : Nat) := by omega
                clear hpw hm hr9 hpos hraw hqi hf2 hstep hput hsz
                generalize hX : toO ws ord q + i = X at *
                generalize nth ws (q + i) = x at *
                clear hX
                by_cases hk : kd x = 3
                · obtain ⟨k0, k1, k2⟩ := (kd_three x).1 hk
                  have e1 : (x / 2).toNat = pcl x := rfl
                  have e2 : x / 2 = ((pcl x : Nat) : Int) := by unfold pcl at e1 ⊢; omega
                  have hkb : (kd x == 3) = true := by simpa using hk
                  have hE : nowO (toO ws ord) x = 2 * (toO ws ord (pcl x) : Int) := nowO_yes hk
                  have hbp := toO_small HOK.out HOR.out.nodup HOR.out.pl (pcl x)
                  have hrun := (hmap.drew).look (t := 110) (e := 3) Try.underlying110 (zero3 _) false ((pcl x : Nat) : Int) (by omega) (by omega)
                  rw [movedM_get ws _ (by omega), Int.toNat_natCast] at hrun
                  simp only [Bool.false_eq_true, if_false] at hrun
                  rw [hE] at HSTEP HPUT
                  have e3 : x.tdiv 2 = ((pcl x : Nat) : Int) := by rw [Int.tdiv_eq_ediv_of_nonneg (by omega)]; exact e2
                  have e4 : IntKind.i64.wrap (2 * (toO ws ord (pcl x) : Int)) = 2 * (toO ws ord (pcl x) : Int) := IntWalk.i64_in _ (by omega)
                  have e5 : IntKind.i64.wrap ((pcl x : Nat) : Int) = ((pcl x : Nat) : Int) := IntWalk.i64_in _ (by omega)
                  clear hk k0 e1 hE hmap hfit
                  go_wp2_with (go_at_call 31; refine (kind_any _ _ (by omega) (by omega)).mono ?_; rintro e w' ⟨rfl, rfl⟩)
                  go_region
                  all_goals
                    clear e3 e4 e5 hrun
                    have HP5 := Lib.hid (HPUT.out.drewN 1)
                    go_wp2_with fail
                    go_roundw
                    case rel => exact ⟨t + 1, _, by go_num, by omega, HSTEP.out, HP5.out⟩
                    case measure => simp [intOf]; omega
                · have hkb : (kd x == 3) = false := by simpa using hk
                  have hE : nowO (toO ws ord) x = x := nowO_no hk
                  rw [hE, set_id HRAW.out] at HSTEP
                  clear hk hE hmap hfit HPUT
                  go_wp2_with (go_at_call 31; refine (kind_any _ _ (by omega) (by omega)).mono ?_; rintro e w' ⟨rfl, rfl⟩)
                  go_roundw
                  case rel => exact ⟨t + 1, xs, by go_num, by omega, HSTEP.out, HM.out⟩
                  case measure => simp [intOf]; omega
              · obtain rfl : t = n11 := by omega
                have hend := weak_end HOR.out (by have := HPW.out; rwa [HN11.out] at this)
                have hbf : Below F w3 wr := HM.out.below
                obtain ⟨t1, t2, t3⟩ := (HR13.out.below hbf (by omega)).f1
                obtain ⟨z1, z2, z3, z4, z5⟩ := (HR23.out.below hbf (by omega)).f2
                obtain ⟨r1, r2, r3, r4, r5⟩ := (HF3.out.below hbf (by omega)).f2
                have HL5 := Lib.hid (HL3.out.trans (hbf.mono (by have := HL3.out.size; have := HFE.out; omega)))
                have hbz : w.heap.size ≤ F := by omega
                have HOX := Lib.hid (HM.out.mov.own.mono hbz); have HOL := Lib.hid (HM.out.l.mono hbz)
                have HOXl := Lib.hid HM.out.mov.own.lt; have HOLl := Lib.hid HM.out.l.lt
                have HEND := Lib.hid hend
                have hnx := HM.out.mov.own.len
                have hnl : n10 = (rs.map (nowO (toO ws ord))).length := (own_ints' HM.out.l).2.1
                have HNXL := Lib.hid hnx; have HNLL := Lib.hid hnl
                clear hend hbf hnx hnl hpw hm
                go_wp2_with fail
                go_region
                all_goals (try go_wp2)
                all_goals
                  refine bodyPost_ret (v := .tuple #[.agg #[.slice (some ⟨G, 0, none⟩) nG cG], .slice A10 n10 c10, fltV 0 0]) (by simp [results, Try.results54, go_sem, fltV, t1, z1, z2]) rfl ⟨arrW ws ord, arrR ws rs ord, ?_, .inr ⟨by rw [HZ.out], ord.length, by rw [← HCH.out], by rw [← HCH.out], by rw [← HCH.out]⟩⟩
                  rw [HZ.out]
                  have hoX := HOX.out
                  have hoL := HOL.out
                  rw [HEND.out, HNXL.out, HEND.out] at hoX
                  have hltL := HOLl.out
                  rw [HNLL.out] at hoL hltL
                  have e1 : nG = (arrW ws ord).length := by rw [HNXL.out, HEND.out]
                  have e2 : n10 = (arrR ws rs ord).length := HNLL.out
                  refine ⟨?_, some ⟨G, 0, none⟩, cG, A10, c10, by rw [e1, e2], ?_, ?_⟩
                  · repeat (first | exact HL5.out | refine Below.drew ?_ | refine Below.setCell ?_ (by dsimp only; omega) _ | refine Below.alloc ?_ (by simp; omega) _)
                  · repeat (first | exact hoX | refine Own.setCell ?_ _ (fun e => by have := (HOXl.out _ e).1; dsimp only at this; omega) _ | refine Own.alloc ?_ _ | refine Own.drewN ?_ 1)
                  · repeat (first | exact hoL | refine Own.setCell ?_ _ (fun e => by have := (hltL _ e).1; dsimp only at this; omega) _ | refine Own.alloc ?_ _ | refine Own.drewN ?_ 1)
end
end Go.Proofs.Ytjpppdacamhhfaa
