/- (*mover).now moves a thing that was not moved, and tells its new reference. Conditions: a view of a heap that may be, a reference that fits. -/
import Derived.Test.YtjpppdacamhhfaaNow
import Derived.Test.YtjpppdacamhhfaaMem5
import Derived.StillTailTactics
import Derived.Deep.RegionLaw
namespace Go.Proofs.Ytjpppdacamhhfaa
open Go.RowKit
set_option linter.unusedVariables false

/-- A world turned at some blocks alone, and made longer. -/
structure Turned (w w' : World) (S : Nat → Prop) : Prop where
  os : w'.os = w.os
  tape : w'.tape = w.tape
  output : w'.output = w.output
  size : w.heap.size ≤ w'.heap.size
  block : ∀ k, k < w.heap.size → ¬ S k → w'.heap[k]? = w.heap[k]?
theorem Turned.refl (w : World) (S : Nat → Prop) : Turned w w S := ⟨rfl, rfl, rfl, Nat.le_refl _, fun _ _ _ => rfl⟩
theorem Turned.grown {w w' w'' : World} {S : Nat → Prop} {r : Option Nat} (h : Turned w w' S) (hg : w'.grownBy w'' r) (hr : ∀ k, r = some k → S k ∨ w.heap.size ≤ k) : Turned w w'' S :=
  ⟨hg.os.trans h.os, hg.tape.trans h.tape, hg.output.trans h.output, Nat.le_trans h.size hg.size, fun k hk hS => (hg.block k (Nat.lt_of_lt_of_le hk h.size) (fun e => by
    rcases hr k e.symm with h' | h'
    · exact hS h'
    · omega)).trans (h.block k hk hS)⟩
theorem Turned.setCell {w w' : World} {S : Nat → Prop} (h : Turned w w' S) {p : Addr} (hp : S p.block ∨ w.heap.size ≤ p.block) (u : Value) : Turned w (w'.setCell p u) S :=
  ⟨h.os, h.tape, h.output, by simpa [World.setCell] using h.size, fun k hk hS => (Below.heap_setCell w' p u k (fun e => by subst e; rcases hp with hp | hp; exact hS hp; omega)).trans (h.block k hk hS)⟩
theorem Turned.drewN {w w' : World} {S : Nat → Prop} (h : Turned w w' S) (n : Nat) : Turned w (w'.drewN n) S := ⟨h.os, h.tape, h.output, h.size, h.block⟩
theorem Turned.alloc {w w' : World} {S : Nat → Prop} (h : Turned w w' S) (o : Obj) : Turned w (w'.alloc o) S := h.grown (World.grownBy_alloc w' o none) (fun k e => by cases e)
theorem Turned.trans {w w' w'' : World} {S S' : Nat → Prop} (h : Turned w w' S) (h' : Turned w' w'' S') (hs : ∀ k, k < w.heap.size → S' k → S k) : Turned w w'' S :=
  ⟨h'.os.trans h.os, h'.tape.trans h.tape, h'.output.trans h.output, Nat.le_trans h.size h'.size, fun k hk hS => (h'.block k (Nat.lt_of_lt_of_le hk h.size) (fun e => hS (hs k hk e))).trans (h.block k hk hS)⟩
theorem Turned.below {w w' : World} {S : Nat → Prop} (h : Turned w w' S) {B : Nat} (hB : B ≤ w.heap.size) (hS : ∀ k, k < B → ¬ S k) : Below B w w' :=
  ⟨h.os, h.tape, h.output, h.size, fun k hk => h.block k (Nat.lt_of_lt_of_le hk hB) (hS k hk)⟩
theorem Turned.blk {w w' : World} {S : Nat → Prop} (h : Turned w w' S) {g : Nat} {t : TypeId} {cs : Array Value} (hb : Blk w g t cs) (hS : ¬ S g) : Blk w' g t cs := (h.block g hb.lt hS).trans hb
theorem Turned.own {w w' : World} {S : Nat → Prop} (h : Turned w w' S) {base : Nat} {v : Value} {xs : List Int} (ho : Own w base v xs) (hS : ∀ k, v.ownBlock = some k → ¬ S k) : Own w' base v xs := by
  refine ⟨ho.1, ?_⟩
  rcases ho.2 with h2 | ⟨g, cap, cur, hv', hg, hh, r⟩
  · exact Or.inl h2
  · exact Or.inr ⟨g, cap, cur, hv', hg, (h.block g (Array.getElem?_eq_some_iff.1 hh).1 (hS g (by rw [hv']; rfl))).trans hh, r⟩
theorem Turned.map {w w' : World} {S : Nat → Prop} (h : Turned w w' S) {M n : Nat} {f : Int → Option Value} (hm : MapI w M n f) (hS : ¬ S M) : MapI w' M n f := hm.same (h.block M hm.lt hS)

/-- A mover in memory. -/
structure MovAt (w : World) (base B9 g M : Nat) (ws : List Int) (ord : List Nat) (xs : List Int) (v : Value) : Prop where
  blk : Blk w B9 119 #[.pointer (some ⟨g, 0, none⟩), v, .map (some M)]
  own : Own w base v xs
  map_ : ∃ n, MapI w M n (movedM ws ord)
  len : xs.length = endO ws ord 2
  lo : base ≤ B9 ∧ base ≤ M ∧ B9 ≠ M
  far : ∀ k, v.ownBlock = some k → k ≠ B9 ∧ k ≠ M

/-- What a call of now leaves. -/
def NowEnd (ws : List Int) (base B9 g M : Nat) (ord : List Nat) (xs : List Int) (v : Value) (o : Int) (w : World) (e : Ending) (w' : World) : Prop :=
  ∃ v', e = .returned (.int .i64 (nowO (toO ws (visit ord o)) o)) ∧ MovAt w' base B9 g M ws (visit ord o) (if kd o = 3 ∧ pcl o ∉ ord then xs ++ rawL ws (pcl o) else xs) v' ∧
    Turned w w' (fun k => k = B9 ∨ k = M ∨ v.ownBlock = some k) ∧ (∀ k, v'.ownBlock = some k → v.ownBlock = some k ∨ w.heap.size ≤ k)

set_option maxRecDepth 100000 in
set_option maxHeartbeats 4000000 in
theorem mnow_any (ws : List Int) (base B9 g M : Nat) (ord : List Nat) (xs : List Int) (v : Value) (o : Int) (w : World) (hM : MovAt w base B9 g M ws ord xs v) (hB : ∀ W, Below base w W → ViewAt W g ws) (hok : OkH ws) (hw : I64 ws)
    (hn : ord.Nodup) (hs : ∀ p ∈ ord, p ∈ places ws) (ho : fitsB ws o = true) (hbz : base ≤ w.heap.size) :
    Calls Try.prog 101 #[.pointer (some ⟨B9, 0, none⟩), .int .i64 o] w (NowEnd ws base B9 g M ord xs v o w) := by
  obtain ⟨x1, x2⟩ := fits_bd ho
  have hsm := toO_small hok hn hs
  by_cases hk : kd o = 3
  · have hpl := fits_pl ho hk
    obtain ⟨p1, p2, p3⟩ := places_mem hpl
    obtain ⟨m1, m2, m3, m4, m5⟩ := not_bad p3
    have hq2 : ws.length ≤ 2000 := hok.most
    obtain ⟨q0, q1, q2⟩ := (kd_three o).1 hk
    have e1 : (o / 2).toNat = pcl o := rfl
    have e2 : o / 2 = ((pcl o : Nat) : Int) := by unfold pcl at e1 ⊢; omega
    obtain ⟨n, hm⟩ := hM.map_
    have hkb : (kd o != 3) = false := by simpa using hk
    have hmb := hM.blk
    obtain ⟨y1, y2, y3, yf1, yf2, yf3, ylt⟩ := hmb.f3
    by_cases hp : pcl o ∈ ord
    · have hvis : visit ord o = ord := by unfold visit; rw [if_neg (fun e => e.2 hp)]
      have hrun := hm.look (t := 110) (e := 3) Try.underlying110 (zero3 _) true (o / 2) (by omega) (by omega)
      rw [movedM_some ws ord (by omega), movedM_get ws ord (by omega), e1] at hrun
      simp only [hp, decide_true, if_true] at hrun
      have hrun2 := hm.look (t := 110) (e := 3) Try.underlying110 (zero3 _) false (o / 2) (by omega) (by omega)
      rw [movedM_get ws ord (by omega), e1] at hrun2
      simp only [Bool.false_eq_true, if_false] at hrun2
      rw [e2] at hrun hrun2
      have hbp := hsm (pcl o)
      have hE : Hid (nowO (toO ws (visit ord o)) o = 2 * (toO ws ord (pcl o) : Int)) := by show _ = _; rw [hvis, nowO_yes hk]
      have hV := Lib.hid hvis; have HM := Lib.hid hM
      have HX : Hid ((if kd o = 3 ∧ pcl o ∉ ord then xs ++ rawL ws (pcl o) else xs) = xs) := if_neg (fun e => e.2 hp)
      clear hM hB hok hw hn hs ho hm hmb hvis hk hp p3 q0 e1 hsm hpl m1 m2 m3 m4 m5 p1 p2
      go_enter Try.func101, Try.ntmps101
      go_wp2_with (go_at_call 31; refine (kind_any _ _ (by omega) (by omega)).mono ?_; rintro e w' ⟨rfl, rfl⟩)
      go_ret
      unfold NowEnd
      rw [hE.out, HX.out, hV.out]
      exact ⟨v, ret_int rfl, HM.out, Turned.refl _ _, fun k hk => .inl hk⟩
    · have hvis : visit ord o = ord ++ [pcl o] := by unfold visit; rw [if_pos ⟨hk, hp⟩]
      have hxe : (if kd o = 3 ∧ pcl o ∉ ord then xs ++ rawL ws (pcl o) else xs) = xs ++ rawL ws (pcl o) := if_pos ⟨hk, hp⟩
      have hrun := hm.look (t := 110) (e := 3) Try.underlying110 (zero3 _) true (o / 2) (by omega) (by omega)
      rw [movedM_some ws ord (by omega), movedM_get ws ord (by omega), e1] at hrun
      simp only [hp, decide_false, if_true] at hrun
      rw [e2] at hrun
      obtain ⟨A, nv, c, rfl, hnv, hcv, -⟩ := hM.own.form3
      have hne : nv = endO ws ord 2 := hnv.trans hM.len
      have hes := endO_small hok hn hs
      have hraw := rawL_len p3
      have hszp : szT ws (pcl o) = 3 + slotsN ws (pcl o) := rfl
      have hsn : slotsN ws (pcl o) = (nth ws (pcl o + 2) / 4).toNat := rfl
      have hE : nowO (toO ws (visit ord o)) o = 2 * (nv : Int) := by rw [hvis, nowO_yes hk, toO_snoc_eq ws hp, hne]
      have hlenE : endO ws (ord ++ [pcl o]) 2 = endO ws ord 2 + szT ws (pcl o) := endO_snoc ws _ _ _
      obtain ⟨lo1, lo2, lo3⟩ := hM.lo
      have hfar := hM.far
      have HFAR := Lib.hid hfar
      have hMl := hm.lt
      clear hfar
      have HE := Lib.hid hE; have HV := Lib.hid hvis; have HX := Lib.hid hxe; have HNE := Lib.hid hne; have HNV := Lib.hid hnv; have HM := Lib.hid hM; have HPL := Lib.hid hpl; have HB := Lib.hid hB; have HW := Lib.hid hw
      have HMAP := Lib.hid hm; have HBLK := Lib.hid hmb; have HP := Lib.hid hp; have HBAD := Lib.hid p3; have HRAW := Lib.hid hraw; have HLENE := Lib.hid hlenE; have HE2 := Lib.hid e2
      have hn9 : nv ≤ 2000 := by omega
      clear hM hB hok hw hn hs ho hm hmb hvis hxe hk hp p3 q0 e1 hE hne hnv hraw hlenE hsm hszp hsn
      go_enter Try.func101, Try.ntmps101
      go_wp2_with (go_at_call 31; refine (kind_any _ _ (by omega) (by omega)).mono ?_; rintro e w' ⟨rfl, rfl⟩)
      go_still_tail 10, (by kernel_rfl)
      change wpList _ _ _ _ _ (World.drew w)
      refine wpList_store rfl (.tmp 28) (.tmp 29) (.tmp 34) 110 3 rfl Try.underlying110 HMAP.out.drew rfl (pcl o : Nat) rfl (.int .i64 (nv : Nat)) rfl (by omega) (by omega) ?_
      intro w3 hm3 hgr3
      rw [HNE.out, movedM_push ws HP.out] at hm3
      have ht3 : Turned w w3 (fun k => k = B9 ∨ k = M ∨ (Value.slice A nv c).ownBlock = some k) := ((Turned.refl w _).drewN 1).grown hgr3 (fun k e => by cases e; exact .inl (.inr (.inl rfl)))
      have hb3 : Below base w w3 := ((Below.refl base w).drew).grown hgr3 hbz (fun q hq => by cases hq; exact lo2)
      have hv3 := HB.out w3 hb3
      have hblk3 := (HBLK.out.drew).grown hgr3 (by simp; omega)
      have hown3 : Own w3 base (.slice A nv c) xs := (HM.out.own.drewN 1).grown hgr3 (by
        rcases hob : (Value.slice A nv c).ownBlock with _ | k
        · exact .inl rfl
        · refine .inr (fun e => ?_)
          have h9 := (HFAR.out k hob).2
          simp at e
          exact h9 e)
      have hs3 : w.heap.size ≤ w3.heap.size := hgr3.size
      clear hgr3 y1 y2 y3 yf1 yf2 yf3 hrun
      obtain ⟨y1, y2, y3, yf1, yf2, yf3, -⟩ := hblk3.f3
      obtain ⟨b, o', c', M', A', oc, v0, v1, v2, hg, hb, hcc, hrow, hord⟩ := hv3.cells
      have HM3 := Lib.hid hm3; have HT3 := Lib.hid ht3; have HV3 := Lib.hid hv3; have HBLK3 := Lib.hid hblk3; have HOWN3 := Lib.hid hown3; have HROW := Lib.hid hrow
      clear hm3 ht3 hv3 hblk3 hown3 hrow hord v1 v2 hb3
      have hvend := endv_any (w := w3.drew) (HV3.out.drewN 1) HW.out (by omega) (pcl o) (by omega)
      have HEND := Lib.hid hvend
      have hval : Value.slice (some ⟨b, o' + pcl o, none⟩) ((((pcl o : Nat) : Int) + 3 + nth ws (pcl o + 2) / 4).toNat - pcl o) (c' - pcl o) = Value.slice (some ⟨b, o' + pcl o, none⟩) (rawL ws (pcl o)).length (c' - pcl o) := by
        have hd : szT ws (pcl o) = 3 + slotsN ws (pcl o) := rfl
        have hd2 : slotsN ws (pcl o) = (nth ws (pcl o + 2) / 4).toNat := rfl
        rw [HRAW.out]
        congr 1
        omega
      have HVAL := Lib.hid hval
      have hraw : Ints w3.drew (some ⟨b, o' + pcl o, none⟩) (rawL ws (pcl o)) := fun _ => ⟨b, o' + pcl o, rfl, hb, fun j hj => by
        rw [HRAW.out] at hj
        have hd : szT ws (pcl o) = 3 + slotsN ws (pcl o) := rfl
        have hd2 : slotsN ws (pcl o) = (nth ws (pcl o + 2) / 4).toNat := rfl
        rw [rawL_nth hj, Nat.add_assoc]
        exact HROW.out (pcl o + j) (by omega)⟩
      have HRAWI := Lib.hid hraw
      have HOD : Hid (Own w3.drew base (.slice A nv c) xs) := HOWN3.out.drewN 1
      have hl4 : xs.length + (rawL ws (pcl o)).length ≤ 1000000000 := by
        have h1 := HRAW.out
        have hd : szT ws (pcl o) = 3 + slotsN ws (pcl o) := rfl
        have hd2 : slotsN ws (pcl o) = (nth ws (pcl o + 2) / 4).toNat := rfl
        have h2 := HNV.out
        omega
      have hz4 : base ≤ w3.drew.heap.size := Nat.le_trans hbz hs3
      have d1 : 0 ≤ ((pcl o : Nat) : Int) := by omega
      have d2 : ((pcl o : Nat) : Int) ≤ ((pcl o : Nat) : Int) + 3 + nth ws (pcl o + 2) / 4 := by omega
      have d3 : ((pcl o : Nat) : Int) + 3 + nth ws (pcl o + 2) / 4 ≤ (c' : Int) := by omega
      have d4 : ¬ c' = pcl o := by omega
      have d5 : 0 ≤ ((pcl o : Nat) : Int) + 3 + nth ws (pcl o + 2) / 4 := by omega
      clear hraw hvend hval
      go_wp2_with fail
      go_region_law (first
        | (refine step_joinM rfl _ _ rfl base (.slice A nv c) xs rfl HOD.out (some ⟨b, o' + pcl o, none⟩) _ (rawL ws (pcl o)) HVAL.out HRAWI.out hl4 hz4 ?_; intro A4 n4 c4 w4 hown4 hgr4 hat4; have hblk4 := (HBLK3.out.drew).grown hgr4 (fun e => (HFAR.out B9 e.symm).1 rfl); obtain ⟨u1, u2, u3, uf1, uf2, uf3, ul⟩ := hblk4.f3)
        | (go_simp; go_at_call 116; refine HEND.out.mono ?_; rintro e w' ⟨rfl, rfl⟩))
      all_goals
        have hfar4 : ∀ k, (Value.slice A4 n4 c4).ownBlock = some k → k ≠ B9 ∧ k ≠ M := fun k e => by
          rcases hat4 k e with h9 | h9
          · exact HFAR.out k h9
          · have h8 : k = w3.heap.size := h9
            omega
        have HFAR4 := Lib.hid hfar4
        have hblk5 := hblk4.set_ 1 (.slice A4 n4 c4)
        have hown5 : Own (w4.setCell ⟨B9, 1, none⟩ (.slice A4 n4 c4)) base (.slice A4 n4 c4) (xs ++ rawL ws (pcl o)) := hown4.setCell _ (fun e => (hfar4 B9 e).1 rfl) _
        have hm5 : MapI (w4.setCell ⟨B9, 1, none⟩ (.slice A4 n4 c4)) M (n + 1) (movedM ws (ord ++ [pcl o])) := ((HM3.out.drew).grown hgr4 (fun e => (HFAR.out M e.symm).2 rfl)).setCell _ _ (by dsimp only; omega)
        have ht5 : Turned w (w4.setCell ⟨B9, 1, none⟩ (.slice A4 n4 c4)) (fun k => k = B9 ∨ k = M ∨ (Value.slice A nv c).ownBlock = some k) := ((HT3.out.drewN 1).grown hgr4 (fun k e => .inl (.inr (.inr e)))).setCell (.inl (.inl rfl)) _
        have hnew : ∀ k, (Value.slice A4 n4 c4).ownBlock = some k → (Value.slice A nv c).ownBlock = some k ∨ w.heap.size ≤ k := fun k e => (hat4 k e).imp id (fun e' => by rw [e']; exact hs3)
        have HBLK5 := Lib.hid hblk5; have HOWN5 := Lib.hid hown5; have HM5 := Lib.hid hm5; have HT5 := Lib.hid ht5; have HNEW := Lib.hid hnew
        clear hblk4 hblk5 hown4 hown5 hm5 ht5 hgr4 u1 u2 u3 uf1 uf2 uf3 ul y1 y2 y3 yf1 yf2 yf3 v0 hat4 hnew hfar4
        generalize (w4.setCell ⟨B9, 1, none⟩ (.slice A4 n4 c4)) = w5 at *
        obtain ⟨y1, y2, y3, yf1, yf2, yf3, -⟩ := HBLK5.out.f3
        have hrun2 := HM5.out.look (t := 110) (e := 3) Try.underlying110 (zero3 _) false ((pcl o : Nat) : Int) (by omega) (by omega)
        rw [movedM_get ws _ (by omega), Int.toNat_natCast, toO_snoc_eq ws HP.out, ← HNE.out] at hrun2
        simp only [Bool.false_eq_true, if_false] at hrun2
        go_wp2_with fail
        go_ret
        unfold NowEnd
        rw [HE.out, HX.out, HV.out]
        refine ⟨.slice A4 n4 c4, ret_int rfl, ⟨HBLK5.out, HOWN5.out, ⟨n + 1, HM5.out⟩, ?_, ⟨lo1, lo2, lo3⟩, HFAR4.out⟩, HT5.out, HNEW.out⟩
        rw [List.length_append, HRAW.out, HLENE.out]
        have h1 := HNV.out; have h2 := HNE.out
        omega
  · have hvis : visit ord o = ord := by unfold visit; rw [if_neg (fun e => hk e.1)]
    have hE : Hid (nowO (toO ws (visit ord o)) o = o) := nowO_no hk
    have hkb : (kd o != 3) = true := by simpa using hk
    have hV := Lib.hid hvis; have HM := Lib.hid hM
    have HX : Hid ((if kd o = 3 ∧ pcl o ∉ ord then xs ++ rawL ws (pcl o) else xs) = xs) := if_neg (fun e => hk e.1)
    clear hM hB hok hw hn hs ho hvis hk hsm
    go_enter Try.func101, Try.ntmps101
    go_wp2_with (go_at_call 31; refine (kind_any _ _ (by omega) (by omega)).mono ?_; rintro e w' ⟨rfl, rfl⟩)
    go_ret
    unfold NowEnd
    rw [hE.out, HX.out, hV.out]
    exact ⟨v, ret_int rfl, HM.out, Turned.refl _ _, fun k hk => .inl hk⟩
end Go.Proofs.Ytjpppdacamhhfaa
