/- gessoref7.Table, gessoref7.All. Conditions: a heap that may be. -/
import Derived.Test.YtjpppdacamhhfaaNmF
import Derived.StillTailTactics
import Derived.Deep.RegionHeld3
namespace Go.Proofs.Ytjpppdacamhhfaa
open Go.RowKit
set_option linter.unusedVariables false

theorem lkR_yes {ws : List Int} {s : Int} (h : isTh ws s = true) : lkR ws s = ((nth ws (pcl s), nth ws (pcl s + 1), formOf ws (pcl s)), (slotsL ws (pcl s), 0)) := by unfold lkR; rw [if_pos h]; rfl
theorem lkR_no {ws : List Int} {s : Int} (h : isTh ws s = false) : lkR ws s = ((0, 0, 0), ([], 3)) := by unfold lkR; rw [if_neg (by rw [h]; decide)]
/-- A world of which only some facts are kept. -/
theorem open_world {E : Act → World → Prop} {a : Act} {W : World} (Q : World → Prop) (hq : Q W) (h : ∀ W', Q W' → E a W') : E a W := h W hq
theorem blk_set4 {w : World} {R : Nat} {t : TypeId} {a0 b0 c0 d0 : Value} (h : Blk w R t #[a0, b0, c0, d0]) (a b c d : Value) :
    Blk ((((w.setCell ⟨R, 0, none⟩ a).setCell ⟨R, 1, none⟩ b).setCell ⟨R, 2, none⟩ c).setCell ⟨R, 3, none⟩ d) R t #[a, b, c, d] := (((h.set_ 0 a).set_ 1 b).set_ 2 c).set_ 3 d
theorem below_set4 {w w5 : World} {B R : Nat} (h : Below B w w5) (hR : B ≤ R) (a b c d : Value) :
    Below B w ((((w5.setCell ⟨R, 0, none⟩ a).setCell ⟨R, 1, none⟩ b).setCell ⟨R, 2, none⟩ c).setCell ⟨R, 3, none⟩ d) := (((h.setCell hR _).setCell hR _).setCell hR _).setCell hR _
/-- The same, written out. -/
def LookV (r : (Int × Int × Int) × (List Int × Int)) (w : World) (e : Ending) (w' : World) : Prop :=
  Below w.heap.size w w' ∧ ∃ A c, e = .returned (.tuple #[.agg #[.int .i64 r.1.1, .int .i64 r.1.2.1, .int .i64 r.1.2.2, .slice A r.2.1.length c], .int .i64 r.2.2]) ∧ Own w' w.heap.size (.slice A r.2.1.length c) r.2.1
theorem lookV_U {r : (Int × Int × Int) × (List Int × Int)} {w w' : World} {e : Ending} (h : LookU r w e w') : LookV r w e w' := h
/-- May that stand there, by what Look tells? -/
def lkB (ws : List Int) (s : Int) : Bool := s == 0 || ((lkR ws s).2.2 == 0 && (lkR ws s).1.2.2 == 1)
theorem lkB_eq (ws : List Int) (s : Int) : lkB ws s = tslotB ws s := by
  unfold lkB tslotB
  cases h : isTh ws s
  · rw [lkR_no h]; simp
  · rw [lkR_yes h]; simp [Bool.beq_eq_decide_eq]

set_option maxRecDepth 100000 in
set_option maxHeartbeats 4000000 in
theorem rtable_any (ws : List Int) (b o c : Nat) (x : Int) (w : World) (hr : Row w b o ws) (hlt : b < w.heap.size) (hcap : ws.length ≤ c) (hok : OkH ws) (hw : I64 ws) (h1 : -9223372036854775808 ≤ x) (h2 : x ≤ 9223372036854775807) :
    Calls Try.prog 79 #[.agg #[.slice (some ⟨b, o, none⟩) ws.length c], .int .i64 x] w fun e w' => e = .returned (.bool (tabB ws x)) ∧ Below w.heap.size w w' := by
  have hx0 : Below w.heap.size w (w.alloc (.cells #[.slice (some ⟨b, o, none⟩) ws.length c] 33)) := (Below.refl _ _).alloc (Nat.le_refl _) _
  have HX0 := Lib.hid hx0
  have HR := Lib.hid (hr.below hx0 hlt)
  have HB0 := Lib.hid (Blk.new w 33 #[.slice (some ⟨b, o, none⟩) ws.length c])
  have hlt0 : b < (w.alloc (.cells #[.slice (some ⟨b, o, none⟩) ws.length c] 33)).heap.size := by rw [World.size_alloc]; omega
  have HOK := Lib.hid hok; have HW := Lib.hid hw
  clear hx0 hr hok hw
  go_enter Try.func79, Try.ntmps79
  go_wp2_with fail
  generalize (w.alloc (.cells #[.slice (some ⟨b, o, none⟩) ws.length c] 33)) = w1 at *
  refine ((rlook_any ws b o c x w1 HR.out hlt0 hcap HW.out HOK.out h1 h2).mono fun e w' h => lookU_R h).mono ?_
  rintro e w2 ⟨hb2, A2, c2, rfl, ho2⟩
  have HX2 := Lib.hid (HX0.out.trans (hb2.mono HX0.out.size))
  have HR2 := Lib.hid (HR.out.below hb2 hlt0); have HB2 := Lib.hid (HB0.out.below hb2 HB0.out.lt)
  have hlt2 : b < w2.heap.size := Nat.lt_of_lt_of_le hlt0 hb2.size
  clear hb2
  cases hth : isTh ws x
  · rw [lkR_no hth] at ho2 ⊢
    have HE : Hid (tabB ws x = false) := by show _ = _; unfold tabB; rw [hth]; rfl
    clear ho2 hth
    unfold thingV
    go_wp2_with fail
    rw [HE.out]
    exact bodyPost_ret (v := .bool false) (by simp [results, Try.results79, go_sem]) rfl ⟨rfl, HX2.out.alloc HX2.out.size _⟩
  obtain ⟨hm, -, -, -⟩ := isTh_mem hth
  have hpb := (places_mem (q := pcl x) hm).2.2
  have HLEN := Lib.hid (slotsL_len hpb)
  have hn60 : slotsN ws (pcl x) ≤ 60 := by have := not_bad hpb; unfold slotsN; omega
  rw [lkR_yes hth] at ho2 ⊢
  dsimp only at ho2 ⊢
  rw [HLEN.out] at ho2 ⊢
  have hi2 := (own_ints9b ho2).1
  have hx3 : Below w2.heap.size w2 (w2.alloc (.cells #[.int .i64 (nth ws (pcl x)), .int .i64 (nth ws (pcl x + 1)), .int .i64 (formOf ws (pcl x)), .slice A2 (slotsN ws (pcl x)) c2] 48)) := (Below.refl _ _).alloc (Nat.le_refl _) _
  have HX3 := Lib.hid (HX2.out.trans (hx3.mono HX2.out.size))
  have HF3 := Lib.hid (Blk.new w2 48 #[.int .i64 (nth ws (pcl x)), .int .i64 (nth ws (pcl x + 1)), .int .i64 (formOf ws (pcl x)), .slice A2 (slotsN ws (pcl x)) c2])
  have HI3 := Lib.hid (hi2.below hx3)
  have HR3 := Lib.hid (HR2.out.below hx3 hlt2); have HB3 := Lib.hid (HB2.out.below hx3 HB2.out.lt)
  have hlt3 : b < (w2.alloc (.cells #[.int .i64 (nth ws (pcl x)), .int .i64 (nth ws (pcl x + 1)), .int .i64 (formOf ws (pcl x)), .slice A2 (slotsN ws (pcl x)) c2] 48)).heap.size := by rw [World.size_alloc]; omega
  have HTH := Lib.hid hth
  obtain ⟨z1, z2, z3, z4, z5, z6, z7, z8, z9⟩ := HF3.out.f4
  clear ho2 hi2 hx3 hm hpb hth HR HR2 HB2
  unfold thingV
  by_cases hf : formOf ws (pcl x) = 0
  case neg =>
    have HE : Hid (tabB ws x = false) := by show _ = _; unfold tabB; rw [HTH.out, decide_eq_false hf]; rfl
    have hfb : (formOf ws (pcl x) != 0) = true := by simpa using hf
    clear hf
    generalize formOf ws (pcl x) = ff at *
    go_wp2_with fail
    rw [HE.out]
    exact bodyPost_ret (v := .bool false) (by simp [results, Try.results79, go_sem]) rfl ⟨rfl, HX3.out⟩
  have HF := Lib.hid hf
  have hfb : (formOf ws (pcl x) != 0) = false := by simpa using hf
  clear hf
  by_cases hn : slotsN ws (pcl x) = 0
  · have HE : Hid (tabB ws x = false) := by show _ = _; unfold tabB; rw [HTH.out, decide_eq_false (show ¬ 0 < slotsN ws (pcl x) by omega)]; simp
    have hnb : (((slotsN ws (pcl x) : Nat) : Int) == 0) = true := by simp; omega
    clear hn
    generalize formOf ws (pcl x) = ff at *
    go_wp2_with fail
    rw [HE.out]
    exact bodyPost_ret (v := .bool false) (by simp [results, Try.results79, go_sem]) rfl ⟨rfl, HX3.out⟩
  have hnb : (((slotsN ws (pcl x) : Nat) : Int) == 0) = false := by simp; omega
  go_wp2_with fail
  clear z1 z2 z3 z4 z5 z6 z7 z8 z9
  generalize (w2.alloc (.cells #[.int .i64 (nth ws (pcl x)), .int .i64 (nth ws (pcl x + 1)), .int .i64 (formOf ws (pcl x)), .slice A2 (slotsN ws (pcl x)) c2] 48)) = w3 at *
  generalize hF2 : w2.heap.size = F at *
  have HFE := Lib.hid hF2
  clear hF2 hfb hnb HX2
  go_loopw [7] (fun i wr => ∃ j : Nat, i = .int .i64 (j : Int) ∧ j ≤ slotsN ws (pcl x) ∧ Below w3.heap.size w3 wr ∧ ∀ k, k < j → tslotB ws (nth (slotsL ws (pcl x)) k) = true) (fun i _ => slotsN ws (pcl x) - (intOf i).toNat)
  case atStart => exact ⟨0, rfl, Nat.zero_le _, Below.refl _ _, fun k hk => absurd hk (Nat.not_lt_zero _)⟩
  case round =>
    obtain ⟨j, rfl, hj, hb, hall⟩ := hrel
    have HBW := Lib.hid hb; have HALL := Lib.hid hall
    have hFF := HF3.out.below hb HF3.out.lt
    have hBB := HB3.out.below hb HB3.out.lt
    obtain ⟨z1, z2, z3, z4, z5, z6, z7, z8, z9⟩ := hFF.f4
    obtain ⟨u1, u2, u3⟩ := hBB.f1
    clear hall hFF hBB
    by_cases hjl : j < slotsN ws (pcl x)
    · have hjs : j < (slotsL ws (pcl x)).length := by rw [HLEN.out]; exact hjl
      obtain ⟨b5, o5, rfl, -, r5⟩ := (HI3.out.below hb) (by omega)
      have e1 := r5 j hjs
      have HNO := Lib.hid (fun h => tab_no (ws := ws) (o := x) hjs h)
      have hsb : -9223372036854775808 ≤ nth (slotsL ws (pcl x)) j ∧ nth (slotsL ws (pcl x)) j ≤ 9223372036854775807 := by
        have hpb := (places_mem (q := pcl x) (isTh_mem HTH.out).1).2.2
        rw [slotsL_nth hpb hjl]; exact HW.out _
      have HNX : Hid (tslotB ws (nth (slotsL ws (pcl x)) j) = true → ∀ k, k < j + 1 → tslotB ws (nth (slotsL ws (pcl x)) k) = true) := fun h k hk => by
        rcases Nat.lt_or_ge k j with hk2 | hk2
        · exact HALL.out k hk2
        · obtain rfl : k = j := by omega
          exact h
      have HRW := Lib.hid (HR3.out.below hb hlt3)
      have hltw : b < wr.drew.heap.size := Nat.lt_of_lt_of_le hlt3 hb.size
      have q1 : (j : Int) < ((slotsN ws (pcl x) : Nat) : Int) := by omega
      clear r5 hjs hb
      generalize hS : nth (slotsL ws (pcl x)) j = s at *
      have HS := Lib.hid hS
      clear hS
      have HLB := Lib.hid (lkB_eq ws s)
      go_wp2_with fail
      have HCT := Lib.hid (fun (W : World) (hB : Below wr.heap.size wr W) => ((rlook_any ws b o c s W (HRW.out.below hB hltw) (Nat.lt_of_lt_of_le hltw hB.size) hcap HW.out HOK.out hsb.1 hsb.2).mono fun e w' h => lookV_U (lookU_R h)))
      have HS9 := Lib.hid (fun (W : World) (hB : Below wr.heap.size wr W) => (⟨(hB.cell (p := ⟨w.heap.size, 0, none⟩) u3).trans u1, (hB.cell (p := ⟨F, 3, none⟩) z9).trans z4, (hB.cell (p := ⟨b5, o5 + j, none⟩) (World.block_lt_of_cell? wr ⟨b5, o5 + j, none⟩ e1)).trans e1⟩ : W.cell? ⟨w.heap.size, 0, none⟩ = some (.slice (some ⟨b, o, none⟩) ws.length c) ∧ W.cell? ⟨F, 3, none⟩ = some (.slice (some ⟨b5, o5, none⟩) (slotsN ws (pcl x)) c2) ∧ W.cell? ⟨b5, o5 + j, none⟩ = some (.int .i64 s)))
      have hn1 : w.heap.size ≠ wr.heap.size := by omega
      have hn2 : F ≠ wr.heap.size := by omega
      have hn3 : b5 ≠ wr.heap.size := Nat.ne_of_lt (World.block_lt_of_cell? wr ⟨b5, o5 + j, none⟩ e1)
      have hS0 := HS9.out wr.drew (Below.refl _ _).drew
      have hSa := HS9.out ((wr.alloc (.cells #[.int .i64 0, .int .i64 0, .int .i64 0, .slice none 0 0] 48)).drew) (((Below.refl _ _).alloc (Nat.le_refl _) _).drew)
      have hca := HCT.out ((wr.alloc (.cells #[.int .i64 0, .int .i64 0, .int .i64 0, .slice none 0 0] 48)).drew) (((Below.refl _ _).alloc (Nat.le_refl _) _).drew)
      have hc0 := HCT.out wr.drew (Below.refl _ _).drew
      unfold lkB at HLB
      generalize lkR ws s = R at *
      obtain ⟨⟨ra, rb, rc⟩, rd, re⟩ := R
      dsimp only at HLB hca hc0 ⊢
      go_region_held3 (fun W => W.cell? ⟨w.heap.size, 0, none⟩ = some (.slice (some ⟨b, o, none⟩) ws.length c) ∧ W.cell? ⟨F, 3, none⟩ = some (.slice (some ⟨b5, o5, none⟩) (slotsN ws (pcl x)) c2) ∧ W.cell? ⟨b5, o5 + j, none⟩ = some (.int .i64 s))
        (first | (with_reducible exact hS0) | (with_reducible exact hSa) | (with_reducible exact hS1) | (with_reducible exact ⟨set4_cell hS1.1 hn1, set4_cell hS1.2.1 hn2, set4_cell hS1.2.2 hn3⟩) | go_keep)
        (first
          | (go_at_call 51; (with_reducible refine hc0.mono ?_); rintro e w5 ⟨hb5, A5, c5, rfl, ho5⟩; have hbA := below_of_drew hb5; have hS1 := HS9.out w5 hbA)
          | (go_at_call 51; (with_reducible refine hca.mono ?_); rintro e w5 ⟨hb5, A5, c5, rfl, ho5⟩; have hbA := (((Below.refl wr.heap.size wr).alloc (Nat.le_refl _) (.cells #[.int .i64 0, .int .i64 0, .int .i64 0, .slice none 0 0] 48)).trans ((below_of_drew hb5).mono (by simp))); have hS1 := HS9.out w5 hbA; have hzb := ((Blk.new wr 48 #[.int .i64 0, .int .i64 0, .int .i64 0, .slice none 0 0]).below (below_of_drew hb5) (Blk.lt (Blk.new wr 48 #[.int .i64 0, .int .i64 0, .int .i64 0, .slice none 0 0]))); obtain ⟨z0, z1, z2, z3, z4, z5, z6, z7, z8⟩ := ((Blk.new wr 48 #[.int .i64 0, .int .i64 0, .int .i64 0, .slice none 0 0]).below (below_of_drew hb5) (Blk.lt (Blk.new wr 48 #[.int .i64 0, .int .i64 0, .int .i64 0, .slice none 0 0]))).f4))
      all_goals first
        | (have hb6 := hbA.alloc hbA.size (.cells #[.int .i64 ra, .int .i64 rb, .int .i64 rc, .slice A5 rd.length c5] 48); have hg6 := Blk.new w5 48 #[.int .i64 ra, .int .i64 rb, .int .i64 rc, .slice A5 rd.length c5]; refine open_world (fun W => Below wr.heap.size wr W ∧ Blk W w5.heap.size 48 #[.int .i64 ra, .int .i64 rb, .int .i64 rc, .slice A5 rd.length c5]) ⟨hb6, hg6⟩ ?_; clear hb6 hg6; rintro w6 ⟨hb6, hg6⟩; generalize w5.heap.size = G at hg6 ⊢)
        | (have hb6 := below_set4 hbA (Nat.le_refl _) (.int .i64 ra) (.int .i64 rb) (.int .i64 rc) (.slice A5 rd.length c5); have hg6 := blk_set4 hzb (.int .i64 ra) (.int .i64 rb) (.int .i64 rc) (.slice A5 rd.length c5); refine open_world (fun W => Below wr.heap.size wr W ∧ Blk W wr.heap.size 48 #[.int .i64 ra, .int .i64 rb, .int .i64 rc, .slice A5 rd.length c5]) ⟨hb6, hg6⟩ ?_; clear hb6 hg6; rintro w6 ⟨hb6, hg6⟩)
      all_goals
        have HB6 := Lib.hid (HBW.out.trans (hb6.mono HBW.out.size))
        obtain ⟨v1, v2, v3, v4, v5, v6, v7, v8, v9⟩ := hg6.f4
        obtain ⟨s1, s2, s3⟩ := HS9.out w6 hb6
        have HXZ := Lib.hid (HX3.out.trans (HB6.out.mono HX3.out.size))
        have hlb := HLB.out
        clear hb6 hg6 hbA hS1 hS0 hSa hca hc0 HCT HS9 hb5 ho5 u1 u2 u3 z1 z2 z3 z4 z5 z6 z7 z8 z9 e1 hn1 hn2 hn3
        by_cases hs0 : s = 0
        · have HT := Lib.hid (HNX.out (by rw [← hlb, hs0]; rfl))
          subst hs0
          clear HNX HNO HLB hlb
          go_wp2_with fail
          go_roundw
          case rel => exact ⟨j + 1, by go_num, by omega, HB6.out, HT.out⟩
          case measure => simp [intOf]; omega
        · have hsn : (s != 0) = true := by simpa using hs0
          have hsf : (s == 0) = false := by simpa using hs0
          rw [hsf, Bool.false_or] at hlb
          cases hre : (re != 0)
          · have hre0 : (re == 0) = true := by simpa using hre
            rw [hre0, Bool.true_and] at hlb
            cases hrc : (rc != 1)
            · have hrc1 : (rc == 1) = true := by simpa using hrc
              have HT := Lib.hid (HNX.out (by rw [← hlb, hrc1]))
              clear HNX HNO HLB hlb hs0 hsf
              go_wp2_with fail
              go_roundw
              case rel => exact ⟨j + 1, by go_num, by omega, HB6.out, HT.out⟩
              case measure => simp [intOf]; omega
            · have hrc1 : (rc == 1) = false := by simpa using hrc
              have HE := Lib.hid (HNO.out (by rw [← hlb, hrc1]))
              clear HNX HNO HLB hlb hs0 hsf
              go_wp2_with fail
              rw [HE.out]
              exact bodyPost_ret (v := .bool false) (by simp [results, Try.results79, go_sem]) rfl ⟨rfl, HXZ.out⟩
          · have hre0 : (re == 0) = false := by simpa using hre
            rw [hre0, Bool.false_and] at hlb
            have HE := Lib.hid (HNO.out hlb.symm)
            clear HNX HNO HLB hlb hs0 hsf
            go_wp2_with fail
            rw [HE.out]
            exact bodyPost_ret (v := .bool false) (by simp [results, Try.results79, go_sem]) rfl ⟨rfl, HXZ.out⟩
    · obtain rfl : j = slotsN ws (pcl x) := by omega
      have HE := Lib.hid (tab_yes HTH.out HF.out (by omega) (fun k hk => HALL.out k (by rw [HLEN.out] at hk; exact hk)))
      have HXZ := Lib.hid (HX3.out.trans (HBW.out.mono HX3.out.size))
      clear hb
      go_wp2_with fail
      rw [HE.out]
      exact bodyPost_ret (v := .bool true) (by simp [results, Try.results79, go_sem]) rfl ⟨rfl, HXZ.out⟩
end Go.Proofs.Ytjpppdacamhhfaa
