/- reach.Reach: what is reached, in order, or what is wrong. Conditions: the words are numbers of 64 bits. -/
import Derived.Test.YtjpppdacamhhfaaKeys
import Derived.Test.YtjpppdacamhhfaaDone
import Derived.Test.YtjpppdacamhhfaaVast
import Derived.Test.YtjpppdacamhhfaaMem5
namespace Go.Proofs.Ytjpppdacamhhfaa
open Go.RowKit
set_option linter.unusedVariables false

def reachL (S : List Nat) : List Int := (sortedS S).map fun k => 2 * k
def ReachTold (ws rs : List Int) (w : World) (e : Ending) (w' : World) : Prop :=
  ∃ xs, (((rootsF ws rs).1 ≠ 0 ∧ xs = []) ∨ ((rootsF ws rs).1 = 0 ∧ ∃ S : List Nat, S.Nodup ∧ (∀ p, p ∈ S ↔ Rch ws rs p) ∧ xs = reachL S)) ∧ Below w.heap.size w w' ∧ ∃ A c, e = .returned (.tuple #[.slice A xs.length c, fltV (rootsF ws rs).1 (rootsF ws rs).2]) ∧ Own w' w.heap.size (.slice A xs.length c) xs
theorem sortedS_mem {S : List Nat} {k : Int} (h : k ∈ sortedS S) : ∃ p ∈ S, k = (p : Int) := by
  unfold sortedS at h
  have h2 := (List.mergeSort_perm _ _).mem_iff.1 h
  obtain ⟨p, hp, rfl⟩ := List.mem_map.1 h2
  exact ⟨p, hp, rfl⟩

set_option maxRecDepth 100000 in
set_option maxHeartbeats 2000000 in
theorem reach_any (ws rs : List Int) (A B : Option Addr) (c d : Nat) (w : World) (hA : Ints w A ws) (hcap : ws.length ≤ c) (hw : I64 ws) (hl : ws.length ≤ 9223372036854775807)
    (hB : Ints w B rs) (hr : I64 rs) (hrl : rs.length ≤ 1000000) : Calls Try.prog 87 #[.agg #[.slice A ws.length c], .slice B rs.length d] w (ReachTold ws rs w) := by
  have hx0 : Below w.heap.size w ((w.alloc (.cells #[.slice A ws.length c] 33)).alloc (.cells #[.int .i64 0, .int .i64 0] 36)) := ((Below.refl _ _).alloc (Nat.le_refl _) _).alloc (by simp) _
  have hh0 : Blk ((w.alloc (.cells #[.slice A ws.length c] 33)).alloc (.cells #[.int .i64 0, .int .i64 0] 36)) w.heap.size 33 #[.slice A ws.length c] := (Blk.new _ _ _).alloc _
  have hr2 : Blk ((w.alloc (.cells #[.slice A ws.length c] 33)).alloc (.cells #[.int .i64 0, .int .i64 0] 36)) (w.heap.size + 1) 36 #[.int .i64 0, .int .i64 0] := by
    have := Blk.new (w.alloc (.cells #[.slice A ws.length c] 33)) 36 #[.int .i64 0, .int .i64 0]
    simpa using this
  have HX0 := Lib.hid hx0; have HH0 := Lib.hid hh0; have HR2 := Lib.hid hr2
  have HA := Lib.hid (hA.below hx0); have HB := Lib.hid (hB.below hx0)
  have HW := Lib.hid hw; have HRW := Lib.hid hr
  clear hx0 hh0 hr2 hA hB hw hr
  go_enter Try.func87, Try.ntmps87
  go_wp2_with fail
  generalize hw1 : ((w.alloc (.cells #[.slice A ws.length c] 33)).alloc (.cells #[.int .i64 0, .int .i64 0] 36)) = w1 at *
  clear hw1
  refine (rsee_any ws rs A B c d w1 HA.out hcap HW.out hl HB.out HRW.out (by omega)).mono ?_
  rintro e w2 ⟨hb2, h⟩
  have HL2 := Lib.hid (HX0.out.trans (hb2.mono HX0.out.size))
  have HR22 := Lib.hid (HR2.out.below hb2 HR2.out.lt)
  have HB2 := Lib.hid (HB.out.below hb2)
  have hRlt : w.heap.size + 1 < w2.heap.size := HR22.out.lt
  clear hb2
  obtain ⟨z1, z2, z3, z4, z5⟩ := HR22.out.f2
  rcases h with ⟨h0, rfl⟩ | ⟨h0, g, rfl, hv⟩
  · have h1 : ((rootsF ws rs).1 != 0) = true := by simpa using h0
    have HN := Lib.hid h0
    clear h0
    unfold seeV fltV
    go_wp2_with fail
    go_region
    all_goals (try go_wp2)
    all_goals
      refine bodyPost_ret (v := .tuple #[.slice none 0 0, fltV (rootsF ws rs).1 (rootsF ws rs).2]) (by simp [results, Try.results87, go_sem, fltV, z1, z2, z5]) rfl ⟨[], .inl ⟨HN.out, rfl⟩, ?_, none, 0, rfl, Own.nil _ _⟩
      repeat (first | exact HL2.out | refine Below.drew ?_ | refine Below.setCell ?_ (by dsimp only; omega) _ | refine Below.alloc ?_ (by simp; omega) _)
  · obtain ⟨hokh, -, -, hfit, hz⟩ := rootsF_zero h0
    have HV := Lib.hid hv; have HOK := Lib.hid hokh; have HFIT := Lib.hid hfit; have HZ := Lib.hid hz
    have hq2 : ws.length ≤ 2000 := hokh.most
    clear hv hokh hz h0 hfit
    have hx3 : Below w2.heap.size w2 (w2.alloc (.cells #[.int .i64 0, .int .i64 0] 36)) := (Below.refl _ _).alloc (Nat.le_refl _) _
    have HF3 := Lib.hid (Blk.new w2 36 #[.int .i64 0, .int .i64 0])
    have HL3 := Lib.hid (HL2.out.trans (hx3.mono HL2.out.size))
    have HR23 := Lib.hid (HR22.out.below hx3 HR22.out.lt)
    have HB3 := Lib.hid (HB2.out.below hx3); have HV3 := Lib.hid (HV.out.below hx3)
    have hs3 : w2.heap.size < (w2.alloc (.cells #[.int .i64 0, .int .i64 0] 36)).heap.size := by simp
    clear hx3 z1 z2 z3 z4 z5
    unfold fltV
    go_wp2_with fail
    generalize hw3 : (w2.alloc (.cells #[.int .i64 0, .int .i64 0] 36)) = w3 at *
    clear hw3
    refine (seen_any ws rs g B d w3 HV3.out HOK.out HW.out HB3.out hrl HFIT.out).mono ?_
    rintro e w4 ⟨M, n, S, hnd, hS, rfl, hm, hM, hb4⟩
    have hsl : S.length ≤ 2000 := by
      have h1 : S.length ≤ (places ws).length := len_le hnd (fun p hp => ((hS p).1 hp).pl HOK.out HFIT.out)
      have := places_len ws; omega
    have HND := Lib.hid hnd; have HS := Lib.hid hS; have HM := Lib.hid hm
    have HF4 := Lib.hid (HF3.out.below hb4 hs3); have HR4 := Lib.hid (HR23.out.below hb4 HR23.out.lt)
    have HL4 := Lib.hid (HL3.out.trans (hb4.mono HL3.out.size))
    have h34 : w3.heap.size ≤ w4.heap.size := hb4.size
    clear hnd hS hm hb4 HV HV3 HB2 HB3
    go_wp2_with (go_at_call 146; refine (keys_any (some M) _).mono ?_; rintro e w5 ⟨rfl, rfl⟩)
    refine (sorted_any S M n w4 HM.out HND.out (by omega)).mono ?_
    rintro e w5 ⟨A5, c5, rfl, ho5, hb5⟩
    have HL5 := Lib.hid (HL4.out.trans (hb5.mono (by have := HL4.out.size; omega)))
    have HF5 := Lib.hid (HF4.out.below hb5 HF4.out.lt); have HR5 := Lib.hid (HR4.out.below hb5 HR4.out.lt)
    have hin : Ints w5 A5 (sortedS S) := (own_ints' ho5).1
    have HIN := Lib.hid hin
    have hbd : ∀ k ∈ sortedS S, 0 ≤ k ∧ k ≤ 2000 := fun k hk => by
      obtain ⟨p, hp, rfl⟩ := sortedS_mem hk
      have h1 := (places_mem (((HS.out p).1 hp).pl HOK.out HFIT.out)).2.1
      omega
    have HBD := Lib.hid hbd
    have hrl2 : reachL S = (sortedS S).map fun k => 2 * k := rfl
    have HRL := Lib.hid hrl2
    have hlen : (sortedS S).length ≤ 2000 := by rw [sortedS_len]; exact hsl
    have h45 : w4.heap.size ≤ w5.heap.size := hb5.size
    clear ho5 hb5 hin hbd hrl2
    generalize sortedS S = L at *
    go_wp2_with fail
    go_loopw [8, 27] (fun v i wr => ∃ j : Nat, i = .int .i64 j ∧ j ≤ L.length ∧ Below w5.heap.size w5 wr ∧ Own wr w5.heap.size v ((L.take j).map fun k => 2 * k)) (fun _ i _ => L.length - (intOf i).toNat)
    case atStart => exact ⟨0, rfl, Nat.zero_le _, Below.refl _ _, Own.nil _ _⟩
    case round =>
      obtain ⟨j, rfl, hj, hb5, hown5⟩ := hrel
      have HB5 := Lib.hid hb5; have HO5 := Lib.hid hown5
      have hws : w5.heap.size ≤ wr.heap.size := hb5.size
      clear hb5 hown5
      by_cases hjl : j < L.length
      · obtain ⟨b1, o1, rfl, hlt1, r1⟩ := HIN.out (by omega)
        have e1 := (r1.below HB5.out hlt1) j hjl
        obtain ⟨k1, k2⟩ := HBD.out (nth L j) (by rw [nth_eq hjl]; exact List.getElem_mem hjl)
        have hTK : (L.take (j + 1)).map (fun k => 2 * k) = (L.take j).map (fun k => 2 * k) ++ [2 * nth L j] := by rw [take_slot hjl, List.map_append, List.map_singleton]
        have HTK := Lib.hid hTK
        clear r1 hTK
        generalize nth L j = k at *
        have hly : ((L.take j).map fun k => 2 * k).length ≤ 1000000000 := by rw [List.length_map, List.length_take]; omega
        have HLY := Lib.hid hly
        have hz6 : w5.heap.size ≤ (wr.alloc (.cells #[.int .i64 (2 * k)] 3)).heap.size := by rw [World.size_alloc]; omega
        clear hly
        go_wp2_with (at_builtin; refine wpList_pushN rfl _ _ rfl w5.heap.size _ ((L.take j).map fun k => 2 * k) rfl (HO5.out.alloc _) wr.heap.size 1 (2 * k) rfl (cell_new wr _ _ _ 0) HLY.out hz6 ?_; intro g6 n6 cap6 w6 hown6 hg6 hgr6; have HO6 := Lib.hid hown6; have HB6 := Lib.hid ((HB5.out.alloc hws _).grown hgr6 hz6 (fun q hq => (HO5.out.lt q hq).1)); clear hown6 hgr6)
        go_roundw
        case rel => exact ⟨j + 1, by go_num, by omega, HB6.out, by rw [HTK.out]; exact HO6.out⟩
        case measure => simp [intOf]; omega
      · obtain rfl : j = L.length := by omega
        have hO5 := HO5.out
        rw [List.take_length, ← HRL.out] at hO5
        obtain ⟨A6, c6, rfl, -⟩ := hO5.form2
        obtain ⟨z1, z2, z3, z4, z5⟩ := (HR5.out.below HB5.out HR5.out.lt).f2
        obtain ⟨r1, r2, r3, r4, r5⟩ := (HF5.out.below HB5.out HF5.out.lt).f2
        have HO6 := Lib.hid hO5
        have HL6 := Lib.hid (HL5.out.trans (HB5.out.mono (by have := HL5.out.size; omega)))
        have hl1 : w.heap.size + 1 < w5.heap.size := by omega
        clear hO5
        go_wp2_with fail
        go_region
        all_goals (try go_wp2)
        all_goals
          refine bodyPost_ret (v := .tuple #[.slice A6 (reachL S).length c6, fltV 0 0]) (by simp [results, Try.results87, go_sem, fltV, z1, z2]) rfl ⟨reachL S, .inr ⟨by rw [HZ.out], S, HND.out, HS.out, rfl⟩, ?_, A6, c6, by rw [HZ.out], ?_⟩
          · repeat (first | exact HL6.out | refine Below.drew ?_ | refine Below.setCell ?_ (by dsimp only; omega) _ | refine Below.alloc ?_ (by simp; omega) _)
          · have hoo := HO6.out.mono (show w.heap.size ≤ w5.heap.size by omega)
            repeat (first | exact hoo | refine Own.setCell ?_ _ (fun e => by have := (HO6.out.lt _ e).1; dsimp only at this; omega) _ | refine Own.alloc ?_ _ | refine Own.drewN ?_ 1)
end Go.Proofs.Ytjpppdacamhhfaa
