/- The document's Look tells a thing. Conditions: numbers of 64 bits, a heap that may be. -/
import Derived.Test.YtjpppdacamhhfaaLook
import Derived.ChangeAlike
import Derived.Deep.RegionLaw
namespace Go.Proofs.Ytjpppdacamhhfaa
open Go.RowKit
set_option linter.unusedVariables false

section
variable (ws : List Int) (b o c : Nat) (x : Int) (w : World) (hr : Row w b o ws) (hlt : b < w.heap.size) (hcap : ws.length ≤ c) (hw : I64 ws) (hok : OkH ws)
    (c1 : -9223372036854775808 ≤ x) (c2 : x ≤ 9223372036854775807)
include hr hlt hcap hw hok c1 c2

set_option maxRecDepth 100000 in
set_option maxHeartbeats 4000000 in
theorem rlook_any : Calls Try.prog 51 #[.agg #[.slice (some ⟨b, o, none⟩) ws.length c], .int .i64 x] w (LookR ws x w) := by
  have HR := Lib.hid ((hr.below ((Below.refl _ _).alloc (Nat.le_refl _) (.cells #[.slice (some ⟨b, o, none⟩) ws.length c] 33)) hlt).below ((Below.refl _ _).alloc (Nat.le_refl _) (.cells #[.int .i64 0, .int .i64 0, .int .i64 0, .slice none 0 0] 48)) (by simp; omega)); clear hr
  have HW := Lib.hid hw; clear hw
  have HOK := Lib.hid hok; clear hok
  have hb0 : Blk ((w.alloc (.cells #[.slice (some ⟨b, o, none⟩) ws.length c] 33)).alloc (.cells #[.int .i64 0, .int .i64 0, .int .i64 0, .slice none 0 0] 48)) w.heap.size 33 #[.slice (some ⟨b, o, none⟩) ws.length c] := (Blk.new _ _ _).alloc _
  have hr0 : Blk ((w.alloc (.cells #[.slice (some ⟨b, o, none⟩) ws.length c] 33)).alloc (.cells #[.int .i64 0, .int .i64 0, .int .i64 0, .slice none 0 0] 48)) (w.heap.size + 1) 48 #[.int .i64 0, .int .i64 0, .int .i64 0, .slice none 0 0] := by
    have := Blk.new (w.alloc (.cells #[.slice (some ⟨b, o, none⟩) ws.length c] 33)) 48 #[.int .i64 0, .int .i64 0, .int .i64 0, .slice none 0 0]
    simpa using this
  have HB0 := Lib.hid hb0; have HR0 := Lib.hid hr0; clear hb0 hr0
  have HL0 : Hid (Below w.heap.size w ((w.alloc (.cells #[.slice (some ⟨b, o, none⟩) ws.length c] 33)).alloc (.cells #[.int .i64 0, .int .i64 0, .int .i64 0, .slice none 0 0] 48))) := ((Below.refl _ _).alloc (Nat.le_refl _) _).alloc (by simp) _
  obtain ⟨q1, q2⟩ : 2 ≤ ws.length ∧ ws.length ≤ 2000 := ⟨HOK.out.two, HOK.out.most⟩
  go_enter Try.func51, Try.ntmps51
  go_wp2_with fail
  have hlt1 : b < ((w.alloc (.cells #[.slice (some ⟨b, o, none⟩) ws.length c] 33)).alloc (.cells #[.int .i64 0, .int .i64 0, .int .i64 0, .slice none 0 0] 48)).heap.size := by simp; omega
  generalize ((w.alloc (.cells #[.slice (some ⟨b, o, none⟩) ws.length c] 33)).alloc (.cells #[.int .i64 0, .int .i64 0, .int .i64 0, .slice none 0 0] 48)) = w1 at *
  obtain ⟨x1, x2, x3⟩ := HB0.out.f1
  obtain ⟨y0, y1, y2, y3, y4, y5, y6, y7, y8⟩ := HR0.out.f4
  cases hth : isTh ws x
  · go_wp2_with (go_at_call 85; refine (rthing_any ws b o c _ HR.out HW.out (by omega) HOK.out.bad _ (by omega) (by omega)).mono ?_; rintro e w' ⟨rfl, rfl⟩)
    have HT := Lib.hid hth
    refine bodyPost_ret (v := .tuple #[thingV 0 0 0 (.slice none 0 0), .int .i64 3]) (by simp [results, Try.results51, go_sem, thingV, y0, y1, y2, y3]) rfl ⟨?_, .inl ⟨HT.out, rfl⟩⟩
    repeat (first | exact HL0.out | refine Below.setCell ?_ (by simp) _)
  · obtain ⟨hfit, hp2, hpl⟩ := isTh_fit hth
    obtain ⟨hpm, hx⟩ := isTh_plc hth
    have HFIT := Lib.hid hfit
    obtain ⟨n1, n2, n3, n4, n5⟩ := not_bad hfit
    have HT := Lib.hid hth
    generalize plc x = p at *
    subst hx
    clear hfit hpm
    have e0 := HR.out p (by omega)
    have e1 := HR.out (p + 1) (by omega)
    have e2 := HR.out (p + 2) (by omega)
    have d0 : 0 ≤ (p : Int) := by omega
    have d1 : (p : Int) < ws.length := by omega
    have d2 : IntKind.i64.wrap ((p : Int) + 1) = (p : Int) + 1 := IntWalk.i64_in _ (by omega)
    have d3 : 0 ≤ (p : Int) + 1 := by omega
    have d4 : (p : Int) + 1 < ws.length := by omega
    have d5 : ((p : Int) + 1).toNat = p + 1 := by omega
    have d6 : IntKind.i64.wrap ((p : Int) + 2) = (p : Int) + 2 := IntWalk.i64_in _ (by omega)
    have d7 : 0 ≤ (p : Int) + 2 := by omega
    have d8 : (p : Int) + 2 < ws.length := by omega
    have d9 : ((p : Int) + 2).toNat = p + 2 := by omega
    go_wp2_with (go_at_call 85; refine (rthing_any ws b o c _ HR.out HW.out (by omega) HOK.out.bad _ (by omega) (by omega)).mono ?_; rintro e w' ⟨rfl, rfl⟩)
    go_region
    go_wp2_with fail
    have hL2 : Below w1.heap.size w1 ((w1.alloc (.cells #[.int .i64 (nth ws p), .int .i64 (nth ws (p + 1)), .int .i64 (nth ws (p + 2) % 4), .slice none 0 0] 48)).drew) := ((Below.refl _ _).alloc (Nat.le_refl _) _).drew
    have hF2 : Blk ((w1.alloc (.cells #[.int .i64 (nth ws p), .int .i64 (nth ws (p + 1)), .int .i64 (nth ws (p + 2) % 4), .slice none 0 0] 48)).drew) w1.heap.size 48 #[.int .i64 (nth ws p), .int .i64 (nth ws (p + 1)), .int .i64 (nth ws (p + 2) % 4), .slice none 0 0] := (Blk.new _ _ _).drew
    clear d0 d1 d2 d3 d4 d5 d6 d7 d8 d9 e0 e1 e2 x1 x2 x3 y0 y1 y2 y3 y4 y5 y6 y7 y8
    generalize ((w1.alloc (.cells #[.int .i64 (nth ws p), .int .i64 (nth ws (p + 1)), .int .i64 (nth ws (p + 2) % 4), .slice none 0 0] 48)).drew) = w2 at *
    have HL2 := Lib.hid hL2
    have HF2 := Lib.hid hF2
    have HR2 := Lib.hid (HR.out.below hL2 hlt1)
    have hlt2 : b < w2.heap.size := Nat.lt_of_lt_of_le hlt1 hL2.size
    have HA2 := Lib.hid (ints_slots HR2.out hlt2 HFIT.out hcap)
    have hL2s := hL2.size
    clear hL2 hF2
    have hRF : w.heap.size + 1 < w1.heap.size := HR0.out.lt
    have hFle : w1.heap.size ≤ w2.heap.size := hL2s
    have hRF2 : w.heap.size + 1 < w2.heap.size := Nat.lt_of_lt_of_le hRF hFle
    generalize w1.heap.size = F at *
    obtain ⟨z0, z1, z2, z3, z4, z5, z6, z7, z8⟩ := HF2.out.f4
    have e2 := HR2.out (p + 2) (by omega)
    have g1 : (slotsL ws p).length = ((p : Int) + 3 + nth ws (p + 2) / 4).toNat - (p + 3) := by rw [slotsL_len HFIT.out]; unfold slotsN; omega
    have G1 := Lib.hid g1; clear g1
    have hS9 : ([] : List Int).length + (slotsL ws p).length ≤ 1000000000 := by rw [slotsL_len HFIT.out]; unfold slotsN; simp; omega
    have hLW : w.heap.size ≤ w2.heap.size := by omega
    have hFW : w.heap.size ≤ F := by omega
    by_cases hcp : c = p + 3
    · subst hcp
      have t0 : nth ws (p + 2) / 4 = 0 := by omega
      have tw : IntKind.i64.wrap 0 = 0 := by decide
      have hSL : Hid (slotsL ws p = []) := List.eq_nil_of_length_eq_zero (by rw [slotsL_len HFIT.out]; unfold slotsN; omega)
      have d2 : IntKind.i64.wrap ((p : Int) + 3) = (p : Int) + 3 := IntWalk.i64_in _ (by omega)
      have d6 : IntKind.i64.wrap ((p : Int) + 2) = (p : Int) + 2 := IntWalk.i64_in _ (by omega)
      have d7 : 0 ≤ (p : Int) + 2 := by omega
      have d8 : (p : Int) + 2 < ws.length := by omega
      have d9 : ((p : Int) + 2).toNat = p + 2 := by omega
      have d10 : 0 ≤ (p : Int) + 3 := by omega
      have d11 : ((p : Int) + 3).toNat = p + 3 := by omega
      have t1 : (nth ws (p + 2)).tdiv 4 = nth ws (p + 2) / 4 := Int.tdiv_eq_ediv_of_nonneg n2
      have t2 : ([] : List Int).length + ([] : List Int).length ≤ 1000000000 := by simp
      have t3 : (0 : Int) ≤ (p : Int) := by omega
      have t6 : (p : Int) + 3 ≤ max ((p : Int) + 3) 0 := by omega
      have t4 := t3
      have t5 := t3
      have t7 := t3
      go_region_law (refine step_join rfl _ _ rfl w2.heap.size (.slice none 0 0) [] rfl (Own.nil _ _) (some ⟨b, o, none⟩) 0 [] rfl (Ints.nil _ _) t2 (Nat.le_refl _) ?_; intro A3 c3 w3 hown3 hgr3 hat3; have hb3 : Below w2.heap.size w2 w3 := (Below.refl _ _).drew.grown hgr3 (Nat.le_refl _) (fun k hk => nomatch hk); obtain ⟨_, _, _, u3, _, _, _, u7, u8⟩ := (HF2.out.below hb3 HF2.out.lt).f4)
      clear t0 tw
      all_goals
        simp only [List.length_nil, Nat.zero_add, List.nil_append] at hown3 hat3 ⊢
        have HO3 := Lib.hid (hown3.mono hLW)
        have hAne : ∀ k, (Value.slice A3 0 c3).ownBlock = some k → w2.heap.size ≤ k := fun k hk => (hown3.lt k hk).1
        have hO4 : Own (w3.setCell ⟨F, 3, none⟩ (.slice A3 0 c3)) w.heap.size (.slice A3 0 c3) ([] : List Int) := HO3.out.setCell _ (fun e => by have := hAne _ e; dsimp only at this; omega) _
        have hF4 : Blk (w3.setCell ⟨F, 3, none⟩ (.slice A3 0 c3)) F 48 #[.int .i64 (nth ws p), .int .i64 (nth ws (p + 1)), .int .i64 (nth ws (p + 2) % 4), .slice A3 0 c3] := (HF2.out.below hb3 HF2.out.lt).set_ 3 _
        have hR4 : Blk (w3.setCell ⟨F, 3, none⟩ (.slice A3 0 c3)) (w.heap.size + 1) 48 #[.int .i64 0, .int .i64 0, .int .i64 0, .slice none 0 0] := ((HR0.out.below HL2.out hRF).below hb3 hRF2).far (by dsimp only; omega) _
        have hB4 : Below w.heap.size w (w3.setCell ⟨F, 3, none⟩ (.slice A3 0 c3)) := ((HL0.out.trans (HL2.out.mono hFW)).trans (hb3.mono hLW)).setCell hFW _
        clear d2 d6 d7 d8 d9 d10 d11 t1 t2 t3 t4 t5 t6 t7 e2 hown3 hat3 hgr3 z0 z1 z2 z3 z4 z5 z6 z7 z8 hS9 u3 u7 u8 hb3 HO3
        generalize (w3.setCell ⟨F, 3, none⟩ (.slice A3 0 c3)) = w4 at *
        have HO4 := Lib.hid hO4; have HB4 := Lib.hid hB4
        clear hO4 hB4
        obtain ⟨u0, u1, u2, u3, u4, u5, u6, u7, u8⟩ := hF4.f4
        obtain ⟨v0, v1, v2, v3, v4, v5, v6, v7, v8⟩ := hR4.f4
        clear hF4 hR4
        go_wp2
        refine bodyPost_ret (v := .tuple #[thingV (nth ws p) (nth ws (p + 1)) (formOf ws p) (.slice A3 0 c3), .int .i64 0]) (by simp [results, Try.results51, go_sem, thingV, formOf, v0, v1, v2, v3]) rfl ⟨?_, .inr ⟨HT.out, A3, c3, ?_, ?_⟩⟩
        · repeat (first | exact HB4.out | refine Below.setCell ?_ (by dsimp only; omega) _)
        · rw [show plc (2 * (p : Int)) = p from by unfold plc; omega, hSL.out]
          rfl
        · rw [show plc (2 * (p : Int)) = p from by unfold plc; omega, hSL.out]
          repeat (first | exact HO4.out | refine Own.setCell ?_ _ (fun e => by have := hAne _ e; dsimp only at this; omega) _)
    · have hval : Value.slice (some ⟨b, o + (p + 3), none⟩) (((p : Int) + 3 + nth ws (p + 2) / 4).toNat - (p + 3)) (c - (p + 3)) = .slice (slotsA b o c p) (slotsL ws p).length (c - (p + 3)) := by
        rw [slotsA_ne _ _ _ _ hcp, G1.out]
      have HVAL := Lib.hid hval; clear hval
      have d2 : IntKind.i64.wrap ((p : Int) + 3) = (p : Int) + 3 := IntWalk.i64_in _ (by omega)
      have d6 : IntKind.i64.wrap ((p : Int) + 2) = (p : Int) + 2 := IntWalk.i64_in _ (by omega)
      have d7 : 0 ≤ (p : Int) + 2 := by omega
      have d8 : (p : Int) + 2 < ws.length := by omega
      have d9 : ((p : Int) + 2).toNat = p + 2 := by omega
      have d10 : IntKind.i64.wrap ((p : Int) + 3 + nth ws (p + 2) / 4) = (p : Int) + 3 + nth ws (p + 2) / 4 := IntWalk.i64_in _ (by omega)
      have d11 : ((p : Int) + 3).toNat = p + 3 := by omega
      have t1 : (nth ws (p + 2)).tdiv 4 = nth ws (p + 2) / 4 := Int.tdiv_eq_ediv_of_nonneg n2
      have t2 : IntKind.i64.wrap (nth ws (p + 2) / 4) = nth ws (p + 2) / 4 := IntWalk.i64_in _ (by omega)
      have t3 : 0 ≤ (p : Int) + 3 + nth ws (p + 2) / 4 := by omega
      have t4 : (p : Int) + 3 + nth ws (p + 2) / 4 ≤ c := by omega
      have t5 : 0 ≤ (p : Int) + 3 := by omega
      have t6 : (p : Int) + 3 ≤ max ((p : Int) + 3 + nth ws (p + 2) / 4) 0 := by omega
      have t7 : (p : Int) + 3 ≤ (p : Int) + 3 + nth ws (p + 2) / 4 := by omega
      go_region_law (refine step_join rfl _ _ rfl w2.heap.size (.slice none 0 0) [] rfl (Own.nil _ _) (slotsA b o _ p) _ (slotsL ws p) HVAL.out HA2.out hS9 (Nat.le_refl _) ?_; intro A3 c3 w3 hown3 hgr3 hat3; have hb3 : Below w2.heap.size w2 w3 := (Below.refl _ _).drew.grown hgr3 (Nat.le_refl _) (fun k hk => nomatch hk); obtain ⟨_, _, _, u3, _, _, _, u7, u8⟩ := (HF2.out.below hb3 HF2.out.lt).f4)
      all_goals
        simp only [List.length_nil, Nat.zero_add, List.nil_append] at hown3 hat3 ⊢
        have HO3 := Lib.hid (hown3.mono hLW)
        have hAne : ∀ k, (Value.slice A3 (slotsL ws p).length c3).ownBlock = some k → w2.heap.size ≤ k := fun k hk => (hown3.lt k hk).1
        have hO4 : Own (w3.setCell ⟨F, 3, none⟩ (.slice A3 (slotsL ws p).length c3)) w.heap.size (.slice A3 (slotsL ws p).length c3) (slotsL ws p) := HO3.out.setCell _ (fun e => by have := hAne _ e; dsimp only at this; omega) _
        have hF4 : Blk (w3.setCell ⟨F, 3, none⟩ (.slice A3 (slotsL ws p).length c3)) F 48 #[.int .i64 (nth ws p), .int .i64 (nth ws (p + 1)), .int .i64 (nth ws (p + 2) % 4), .slice A3 (slotsL ws p).length c3] := (HF2.out.below hb3 HF2.out.lt).set_ 3 _
        have hR4 : Blk (w3.setCell ⟨F, 3, none⟩ (.slice A3 (slotsL ws p).length c3)) (w.heap.size + 1) 48 #[.int .i64 0, .int .i64 0, .int .i64 0, .slice none 0 0] := ((HR0.out.below HL2.out hRF).below hb3 hRF2).far (by dsimp only; omega) _
        have hB4 : Below w.heap.size w (w3.setCell ⟨F, 3, none⟩ (.slice A3 (slotsL ws p).length c3)) := ((HL0.out.trans (HL2.out.mono hFW)).trans (hb3.mono hLW)).setCell hFW _
        clear d2 d6 d7 d8 d9 d10 d11 t1 t2 t3 t4 t5 t6 t7 e2 hown3 hat3 hgr3 z0 z1 z2 z3 z4 z5 z6 z7 z8 hS9 u3 u7 u8 hb3 HO3
        generalize (w3.setCell ⟨F, 3, none⟩ (.slice A3 (slotsL ws p).length c3)) = w4 at *
        have HO4 := Lib.hid hO4; have HB4 := Lib.hid hB4
        clear hO4 hB4
        obtain ⟨u0, u1, u2, u3, u4, u5, u6, u7, u8⟩ := hF4.f4
        obtain ⟨v0, v1, v2, v3, v4, v5, v6, v7, v8⟩ := hR4.f4
        clear hF4 hR4
        go_wp2
        refine bodyPost_ret (v := .tuple #[thingV (nth ws p) (nth ws (p + 1)) (formOf ws p) (.slice A3 (slotsL ws p).length c3), .int .i64 0]) (by simp [results, Try.results51, go_sem, thingV, formOf, v0, v1, v2, v3]) rfl ⟨?_, .inr ⟨HT.out, A3, c3, ?_, ?_⟩⟩
        · repeat (first | exact HB4.out | refine Below.setCell ?_ (by dsimp only; omega) _)
        · rw [show plc (2 * (p : Int)) = p from by unfold plc; omega]
        · rw [show plc (2 * (p : Int)) = p from by unfold plc; omega]
          repeat (first | exact HO4.out | refine Own.setCell ?_ _ (fun e => by have := hAne _ e; dsimp only at this; omega) _)
end
end Go.Proofs.Ytjpppdacamhhfaa
