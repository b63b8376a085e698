/- reach.Seen computes the set of what is reached. Conditions: a view of a heap that may be, roots that fit. -/
import Derived.Test.YtjpppdacamhhfaaHeap1
import Derived.Test.YtjpppdacamhhfaaMem4
import Derived.Test.YtjpppdacamhhfaaSSpec
import Derived.Deep.LoopGhost
namespace Go.Proofs.Ytjpppdacamhhfaa
open Go.RowKit
set_option linter.unusedVariables false

/-- A set of places, as a map. -/
def seenM (S : List Nat) : Int → Option Value := fun k => if 0 ≤ k ∧ k.toNat ∈ S then some (.agg #[]) else none
theorem seenM_nil : seenM [] = fun _ => none := by funext k; simp [seenM]
theorem seenM_push (S : List Nat) (p : Nat) : put (seenM S) (p : Int) (.agg #[]) = seenM (S ++ [p]) := by
  funext k
  by_cases h : k = (p : Int)
  · subst h; rw [put_same]; simp [seenM]
  · rw [put_other _ _ h]
    unfold seenM
    have e : (0 ≤ k ∧ k.toNat ∈ S ++ [p]) ↔ (0 ≤ k ∧ k.toNat ∈ S) := by
      constructor
      · rintro ⟨h1, h2⟩
        refine ⟨h1, ?_⟩
        rcases List.mem_append.1 h2 with h2 | h2
        · exact h2
        · rw [List.mem_singleton] at h2; omega
      · rintro ⟨h1, h2⟩; exact ⟨h1, List.mem_append_left _ h2⟩
    by_cases hc : 0 ≤ k ∧ k.toNat ∈ S
    · rw [if_pos hc, if_pos (e.2 hc)]
    · rw [if_neg hc, if_neg (fun h => hc (e.1 h))]
theorem seenM_at (S : List Nat) (p : Nat) : (seenM S (p : Int)).isSome = decide (p ∈ S) := by
  unfold seenM
  by_cases h : p ∈ S
  · rw [if_pos ⟨by omega, by simpa using h⟩]; simp [h]
  · rw [if_neg (fun e => h (by simpa using e.2))]; simp [h]

theorem seenM_get (S : List Nat) (k : Int) : (seenM S k).getD (.agg #[]) = .agg #[] := by unfold seenM; split <;> rfl
theorem zeroU (w : World) : (zeroValue 128).run Try.prog w = .ok (.agg #[]) w := by kernel_rfl

set_option maxRecDepth 100000 in
theorem has_any (M n : Nat) (S : List Nat) (p : Nat) (w : World) (hM : MapI w M n (seenM S)) (hp : p ≤ 100000) :
    Calls Try.prog 115 #[.map (some M), .int .i64 p] w fun e w' => e = .returned (.bool (decide (p ∈ S))) ∧ Below w.heap.size w w' := by
  have hrun := hM.look (t := 132) (e := 128) Try.underlying132 (zeroU _) true (p : Int) (by omega) (by omega)
  rw [seenM_at, seenM_get] at hrun
  simp only [if_true] at hrun
  have hz := zeroU
  go_enter Try.func115, Try.ntmps115
  go_wp2
  go_ret
  exact ⟨rfl, ((Below.refl _ _).alloc (Nat.le_refl _) _)⟩

/-- How reach.Seen ends. -/
def SeenEnd (ws rs : List Int) (w : World) (e : Ending) (w' : World) : Prop :=
  ∃ M n S, S.Nodup ∧ (∀ p, p ∈ S ↔ Rch ws rs p) ∧ e = .returned (.map (some M)) ∧ MapI w' M n (seenM S) ∧ w.heap.size ≤ M ∧ Below w.heap.size w w'

set_option maxRecDepth 100000 in
set_option maxHeartbeats 4000000 in
theorem seen_any (ws rs : List Int) (g : Nat) (B : Option Addr) (d : Nat) (w : World) (hv : ViewAt w g ws) (hok : OkH ws) (hw : I64 ws) (hB : Ints w B rs) (hrl : rs.length ≤ 1000000) (hfit : ∀ o ∈ rs, fitsB ws o = true) :
    Calls Try.prog 114 #[.pointer (some ⟨g, 0, none⟩), .slice B rs.length d] w (SeenEnd ws rs w) := by
  have hq1 : 2 ≤ ws.length := hok.two
  have hq2 : ws.length ≤ 2000 := hok.most
  have hmm := @run_makeMap Try.prog
  obtain ⟨b, o, c', M', A', oc, v0, v1, v2, hg, hb, hcc, hrow, hord⟩ := hv.cells
  have hx0 : Below w.heap.size w (w.alloc (.map #[] 0)) := (Below.refl _ _).alloc (Nat.le_refl _) _
  have HM0 := Lib.hid (MapI.new w)
  have HB := Lib.hid (hB.below hx0); have HX0 := Lib.hid hx0
  have HV := Lib.hid hv; have HROW := Lib.hid hrow; have V0 := Lib.hid v0
  have HOK := Lib.hid hok; have HW := Lib.hid hw; have HFIT := Lib.hid hfit
  have hz1 : Hid ((w.alloc (.map #[] 0)).heap.size = w.heap.size + 1) := by show _ = _; simp
  clear hv hx0 v0 v1 v2 hrow hord hB hok hw hfit
  go_enter Try.func114, Try.ntmps114
  go_wp2_with fail
  generalize hw1 : (w.alloc (.map #[] 0)) = w1 at *
  clear hw1
  refine (clone_any rs B d w1 HB.out (by omega)).mono ?_
  rintro e w2 ⟨hx2, A2, k2, rfl, hown2⟩
  have HO2 := Lib.hid hown2; have HX2 := Lib.hid (HX0.out.trans (hx2.mono HX0.out.size))
  have HM2 := Lib.hid (HM0.out.below hx2 (by have := hz1.out; omega))
  have hsz2 : w1.heap.size ≤ w2.heap.size := hx2.size
  rw [seenM_nil.symm] at HM2
  clear hown2 hx2
  go_wp2_with fail
  have hMF : w.heap.size < w1.heap.size := by have := hz1.out; omega
  have hvw : ∀ W, Below w.heap.size w W → ViewAt W g ws := fun W hb => HV.out.below hb
  have hcw : ∀ W, Below w.heap.size w W → W.cell? ⟨g, 0, none⟩ = some (.slice (some ⟨b, o, none⟩) ws.length c') := fun W hb' => (hb'.cell (p := ⟨g, 0, none⟩) hg).trans V0.out
  have hrw : ∀ W, Below w.heap.size w W → Row W b o ws := fun W hb' => HROW.out.below hb' hb
  have HVW := Lib.hid hvw; have HCW := Lib.hid hcw; have HRW := Lib.hid hrw
  clear hvw hcw hrw
  generalize hMe : w.heap.size = M at *
  have HME := Lib.hid hMe
  clear hMe
  generalize w1.heap.size = F at *
  have hlp : (places ws).length ≤ ws.length := places_len ws
  go_loopg [6] (64 * (places ws).length + rs.length) (fun gk v wr => ∃ (S : List Nat) (n : Nat) (xs : List Int), SeenI ws rs S xs ∧ 64 * ((places ws).length - S.length) + xs.length ≤ gk ∧ xs.length ≤ rs.length + 64 * S.length ∧ Below M w wr ∧ F ≤ wr.heap.size ∧ Own wr F v xs ∧ MapI wr M n (seenM S))
  case atStart => exact ⟨[], 0, rs, SeenI.start HFIT.out, by simp, by simp, HX2.out, hsz2, HO2.out, HM2.out⟩
  case round =>
    obtain ⟨S, n, xs, hS, hgk, hxl, hbr, hsz, hown, hM⟩ := hrel
    have hfew := hS.few HOK.out HFIT.out
    have HS := Lib.hid hS; have HBR := Lib.hid hbr; have HO := Lib.hid hown; have HM := Lib.hid hM
    clear hS hbr hown hM
    rcases Nat.eq_zero_or_pos xs.length with h0 | hpos
    · obtain rfl : xs = [] := List.eq_nil_of_length_eq_zero h0
      obtain ⟨A, c, rfl, -⟩ := HO.out.form2
      clear h0
      go_wp2_with fail
      refine bodyPost_ret (v := .map (some M)) (by simp [results, Try.results114, go_sem]) rfl ⟨M, n, S, HS.out.nodup, HS.out.fin, rfl, HM.out, by have := HME.out; omega, by have := HBR.out; rw [← HME.out] at this; exact this⟩
    · obtain ⟨ys, x, rfl⟩ := snoc_ex hpos
      have hxlen : (ys ++ [x]).length = ys.length + 1 := by simp
      obtain ⟨A, c, rfl, -⟩ := HO.out.form2
      obtain ⟨G, rfl, hG1, hG2, -, hGc⟩ := HO.out.some_ (by omega)
      rw [hxlen] at HO hgk hxl hGc ⊢
      have hcell := HO.out.cell ys.length (by omega)
      have e0 : nth (ys ++ [x]) ys.length = x := by simp [nth]
      rw [e0] at hcell
      have hO1 := HO.out.cut (k := ys.length) (by omega)
      have e2 : (ys ++ [x]).take ys.length = ys := by simp
      rw [e2] at hO1
      have HO1 := Lib.hid hO1
      have hfx := HS.out.fit x (by simp)
      obtain ⟨x1, x2⟩ := fits_bd hfx
      clear e0 e2 hO1 hpos hxlen
      have g1 : (ys.length : Int) + 1 - 1 = (ys.length : Int) := by omega
      by_cases hk : kd x = 3
      · obtain ⟨q0, q1', q2', q3'⟩ := isTh_mem (fits_th hfx hk)
        have hpm := fits_pl hfx hk
        have hpx : pcl x = (x / 2).toNat := rfl
        rw [← hpx] at q1'
        have e1 : x / 2 = ((pcl x : Nat) : Int) := by omega
        have HPLC := Lib.hid (Eq.refl (pcl x))
        generalize hpe : pcl x = p at *
        have hkb : (kd x != 3) = false := by simpa using hk
        have HP := Lib.hid hpm
        have HK := Lib.hid hk
        obtain ⟨m1, m2, m3⟩ := places_mem hpm
        have HPLC := Lib.hid hpe
        clear hk hfx q0 hpx hpm q1' hpe
        by_cases hS : p ∈ S
        · have HSK := Lib.hid (HS.out.skip (.inr (by rw [HPLC.out]; exact hS)))
          have hd : decide (p ∈ S) = true := by simpa using hS
          clear hS
          go_wp2_with (first
            | (go_at_call 31; refine (kind_any _ _ (by omega) (by omega)).mono ?_; rintro e w' ⟨rfl, rfl⟩)
            | (go_at_call 115; refine (has_any M n S p _ HM.out (by omega)).mono ?_; rintro e w4 ⟨rfl, hb4⟩; have HB4 := Lib.hid hb4; clear hb4))
          have hsz4 := HB4.out.size
          have hGl := HO1.out.block
          have hMl := HM.out.lt
          go_roundg (gk - 1)
          case measure => omega
          case rel =>
            exact ⟨S, n, ys, HSK.out, by omega, by omega, HBR.out.trans (HB4.out.mono (by have := HBR.out.size; have := HME.out; omega)), by omega, HO1.out.below HB4.out (fun q hq => by simp [Value.ownBlock] at hq; omega), HM.out.below HB4.out hMl⟩
        · have HSP := Lib.hid (HS.out.push HOK.out HFIT.out HK.out (by rw [HPLC.out]; exact hS))
          rw [HPLC.out] at HSP
          have hd : decide (p ∈ S) = false := by simpa using hS
          clear hS
          have hfew2 := HSP.out.few HOK.out HFIT.out
          rw [List.length_append, List.length_singleton] at hfew2
          obtain ⟨n1, n2, n3, n4, n5⟩ := not_bad m3
          have hsn : slotsN ws p = (nth ws (p + 2) / 4).toNat := rfl
          have HBAD := Lib.hid m3
          clear m3
          have hGl := HO1.out.block
          have hMl := HM.out.lt
          have hbz : M ≤ wr.heap.size := by omega
          have hl6 : ys.length ≤ 1000000000 := by omega
          go_wp2_with (first
            | (go_at_call 31; refine (kind_any _ _ (by omega) (by omega)).mono ?_; rintro e w' ⟨rfl, rfl⟩)
            | (go_at_call 115; refine (has_any M n S p _ HM.out (by omega)).mono ?_; rintro e w4 ⟨rfl, hb4⟩; have HB4 := Lib.hid hb4; have HM4 := Lib.hid (HM.out.below hb4 HM.out.lt); have HO4 := Lib.hid (HO1.out.below hb4 (fun q hq => by simp [Value.ownBlock] at hq; omega)); have HBR4 := Lib.hid (HBR.out.trans (hb4.mono hbz)); have hsz4 : wr.heap.size ≤ w4.heap.size := hb4.size; clear hb4)
            | (at_mapUpdate; refine wpList_store rfl _ _ _ 132 128 rfl Try.underlying132 HM4.out rfl (x / 2) rfl (.agg #[]) rfl (by omega) (by omega) ?_; intro w5 hm5 hgr5; rw [e1, seenM_push] at hm5; have HM5 := Lib.hid hm5; have hb5 : Below M w w5 := HBR4.out.grown hgr5 (by omega) (fun q hq => by simp at hq; omega); have HBR5 := Lib.hid hb5; have HO5 := Lib.hid (HO4.out.grown hgr5 (.inr (by simp [Value.ownBlock]; omega))); have hsz5 : w4.heap.size ≤ w5.heap.size := hgr5.size; have hz5 : F ≤ w5.heap.size := (by omega); have HZ5 := Lib.hid hz5; have c5 := HCW.out _ hb5; have r5 := HRW.out _ hb5 p (by omega); clear hm5 hgr5 hb5)
            | (at_builtin; have hz5 := HZ5.out; have hz6 : F ≤ (w5.alloc (.cells #[.int .i64 (nth ws p)] 3)).heap.size := (by rw [World.size_alloc]; omega); refine wpList_push rfl (.tmp 38) (.tmp 47) rfl F _ ys rfl (HO5.out.alloc _) w5.heap.size 1 (nth ws p) rfl (cell_new w5 _ _ _ 0) hl6 hz6 ?_; intro g6 cap6 w6 hown6 hg6 hgr6; have HO6 := Lib.hid hown6; have hb6 : Below M w w6 := (HBR5.out.alloc (Nat.le_trans (Nat.le_of_lt hMF) hz5) _).grown hgr6 (Nat.le_trans (Nat.le_of_lt hMF) hz6) (fun q hq => Nat.le_trans (Nat.le_of_lt hMF) (HO5.out.lt q hq).1); have HBR6 := Lib.hid hb6; have HM6 := Lib.hid ((HM5.out.alloc _).grown hgr6 (fun e => absurd (HO5.out.lt M e.symm).1 (Nat.not_le.2 hMF))); have hsz6 : w5.heap.size ≤ w6.heap.size := (by have := hgr6.size; simp at this; omega); clear hown6 hgr6 hb6 hz6))
          refine (formv_any (HVW.out _ HBR6.out) HW.out (by omega) p (by omega)).mono ?_
          rintro e w' ⟨rfl, rfl⟩
          have hH : holdsL ws p = nth ws p :: (if formOf ws p = 0 then slotsL ws p else []) := rfl
          have HH := Lib.hid hH
          clear hH c5 r5
          cases hf : (formOf ws p == 0)
          · have HF : Hid (holdsL ws p = [nth ws p]) := by show _ = _; rw [HH.out, if_neg (by simpa using hf)]
            go_wp2_with fail
            go_roundg (gk - 1)
            case measure => omega
            case rel =>
              have h9 := HSP.out
              rw [HF.out] at h9
              exact ⟨S ++ [p], n + 1, ys ++ [nth ws p], h9, by simp; omega, by simp; omega, HBR6.out, by omega, by have := HO6.out; simpa using this, HM6.out⟩
          · have HF : Hid (holdsL ws p = nth ws p :: slotsL ws p) := by show _ = _; rw [HH.out, if_pos (by simpa using hf)]
            go_wp2_with fail
            refine (slotsv_any (HVW.out _ HBR6.out) HW.out (by omega) p HBAD.out).mono ?_
            rintro e w7 ⟨A9, c9, m9, rfl, hA9, rfl, -⟩
            have hslen := slotsL_len HBAD.out
            have HA9 := Lib.hid (hA9.drewN m9)
            have HO7 := Lib.hid (HO6.out.drewN m9)
            have hl9 : (ys ++ [nth ws p]).length + (slotsL ws p).length ≤ 1000000000 := by simp; omega
            have hz9 : F ≤ (w6.drewN m9).heap.size := by show F ≤ w6.heap.size; omega
            rw [← hslen]
            clear hA9
            have HSLEN := Lib.hid hslen
            clear hslen
            go_wp2_with (at_builtin; refine wpList_join rfl (.tmp 54) (.tmp 58) rfl F _ (ys ++ [nth ws p]) rfl HO7.out A9 c9 (slotsL ws p) rfl HA9.out hl9 hz9 ?_; intro A10 c10 w10 hown10 hgr10 hat10; have HO10 := Lib.hid hown10; have hb10 : Below M w w10 := (HBR6.out.trans (belowN _ _ m9)).grown hgr10 (Nat.le_trans (Nat.le_of_lt hMF) hz9) (fun q hq => Nat.le_trans (Nat.le_of_lt hMF) (HO7.out.lt q hq).1); have HBR10 := Lib.hid hb10; have HM10 := Lib.hid ((HM6.out.drewN m9).grown hgr10 (fun e => absurd (HO7.out.lt M e.symm).1 (Nat.not_le.2 hMF))); have hsz10 : F ≤ w10.heap.size := Nat.le_trans hz9 hgr10.size; clear hown10 hgr10 hb10 hat10)
            go_roundg (gk - 1)
            case measure => omega
            case rel =>
              have h9 := HSP.out
              rw [HF.out] at h9
              have hsl := HSLEN.out
              exact ⟨S ++ [p], n + 1, ys ++ (nth ws p :: slotsL ws p), h9, by simp; omega, by simp; omega, HBR10.out, hsz10, by have h8 := HO10.out; rw [List.append_assoc, List.length_append, List.length_singleton] at h8; exact h8, HM10.out⟩
      · have HSK := Lib.hid (HS.out.skip (.inl hk))
        have hkb : (kd x != 3) = true := by simpa using hk
        clear hk
        go_wp2_with (go_at_call 31; refine (kind_any _ _ (by omega) (by omega)).mono ?_; rintro e w' ⟨rfl, rfl⟩)
        go_roundg (gk - 1)
        case measure => omega
        case rel => exact ⟨S, n, ys, HSK.out, by omega, by omega, HBR.out, hsz, HO1.out, HM.out⟩
end Go.Proofs.Ytjpppdacamhhfaa
