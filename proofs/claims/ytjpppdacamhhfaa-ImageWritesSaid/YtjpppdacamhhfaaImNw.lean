/- gessoref6's Number. Conditions: a number of 64 bits. -/
import Derived.Test.YtjpppdacamhhfaaImW
namespace Go.Proofs.Ytjpppdacamhhfaa
open Go.RowKit
set_option linter.unusedVariables false

set_option maxRecDepth 100000 in
set_option maxHeartbeats 1600000 in
theorem number_any (n : Int) (w : World) (h1 : -9223372036854775808 ≤ n) (h2 : n ≤ 9223372036854775807) :
    Calls Try.prog 123 #[.int .i64 n] w fun e w' => ∃ v, e = .returned v ∧ OwnU w' w.heap.size v (numB n) ∧ Below w.heap.size w w' := by
  have HZL := Lib.hid (zz_lt h1 h2)
  have HNL := Lib.hid (numB_len h1 h2)
  by_cases hn : n < 0
  · have hz : -(n + 1) * 2 + 1 = ((zz n : Nat) : Int) := by unfold zz; rw [if_neg (by omega)]; omega
    go_enter Try.func123, Try.ntmps123
    go_wp2_with fail
    clear hn
    have HNB := Lib.hid (show vb (zz n) = numB n from rfl)
    have hnl := HNL.out
    rw [← HNB.out] at hnl
    have HNL2 := Lib.hid hnl
    clear hnl hz
    generalize zz n = u0 at *
    go_loopw [3, 4] (fun s v wr => ∃ (u : Nat) (cs : List Int), s = .int .u64 (u : Int) ∧ u < 18446744073709551616 ∧ OwnU wr w.heap.size v cs ∧ cs ++ vb u = vb u0 ∧ Below w.heap.size w wr) (fun s _ _ => (intOf s).toNat)
    case atStart => exact ⟨u0, [], rfl, HZL.out, OwnU.nil _ _, rfl, Below.refl _ _⟩
    case round =>
      obtain ⟨u, cs, rfl, hu, hown, he, hb⟩ := hrel
      have HB := Lib.hid hb; have HO := Lib.hid hown; have HE := Lib.hid he
      have hcl : cs.length ≤ 10 := by have h := HNL2.out; rw [← he, List.length_append] at h; omega
      have hbl : cs.length ≤ 1000000000 := by omega
      have HBL := Lib.hid hbl
      have hws := hb.size
      clear hb hown he hbl hcl
      by_cases hc : u < 128
      · have hby : IntKind.u8.wrap (u : Int) = (u : Int) := by rw [IntKind.wrap_u8]; omega
        have hby2 : (u : Int) % 256 = (u : Int) := by omega
        have HEV := Lib.hid (vb_low hc)
        have hz6 : w.heap.size ≤ (wr.alloc (.cells #[.int .u8 (u : Int)] 5)).heap.size := by rw [World.size_alloc]; omega
        have HX := Lib.hid (cell_new wr #[.int .u8 (u : Int)] 5 (0, 0) 0)
        go_wp2_with (at_builtin; refine wpList_pushNU rfl _ _ rfl w.heap.size _ cs rfl (HO.out.alloc _) wr.heap.size 1 (u : Int) rfl HX.out HBL.out hz6 ?_; intro g6 n6 cap6 w6 hown6 hg6 hgr6; have HO6 := Lib.hid hown6; have HB6 := Lib.hid ((HB.out.alloc hws _).grown hgr6 hz6 (fun q hq => (HO.out.lt q hq).1)); clear hown6 hgr6)
        refine bodyPost_ret (v := .slice (some ⟨g6, 0, none⟩) n6 cap6) (by simp [results, Try.results123, go_sem]) rfl ⟨_, rfl, ?_, HB6.out⟩
        have h9 := HO6.out
        rw [← HEV.out, HE.out, HNB.out] at h9
        exact h9
      · have htd : (u : Int).tdiv 128 = (u : Int) / 128 := Int.tdiv_eq_ediv_of_nonneg (by omega)
        have hwd : IntKind.u64.wrap ((u : Int) / 128) = (u : Int) / 128 := by rw [IntKind.wrap_u64]; omega
        have hw1 : IntKind.u64.wrap ((u : Int) % 128 + 128) = (u : Int) % 128 + 128 := by rw [IntKind.wrap_u64]; omega
        have hw2 : IntKind.u8.wrap ((u : Int) % 128 + 128) = (u : Int) % 128 + 128 := by rw [IntKind.wrap_u8]; omega
        have hw3 : ((u : Int) % 128 + 128) % 256 = (u : Int) % 128 + 128 := by omega
        have hev : vb u = ((u : Int) % 128 + 128) :: vb (u / 128) := by rw [vb_high (by omega)]; congr 1
        have HEV := Lib.hid hev
        have hz6 : w.heap.size ≤ (wr.alloc (.cells #[.int .u8 ((u : Int) % 128 + 128)] 5)).heap.size := by rw [World.size_alloc]; omega
        have HX := Lib.hid (cell_new wr #[.int .u8 ((u : Int) % 128 + 128)] 5 (0, 0) 0)
        clear hev
        go_wp2_with (at_builtin; refine wpList_pushNU rfl _ _ rfl w.heap.size _ cs rfl (HO.out.alloc _) wr.heap.size 1 ((u : Int) % 128 + 128) rfl HX.out HBL.out hz6 ?_; intro g6 n6 cap6 w6 hown6 hg6 hgr6; have HO6 := Lib.hid hown6; have HB6 := Lib.hid ((HB.out.alloc hws _).grown hgr6 hz6 (fun q hq => (HO.out.lt q hq).1)); clear hown6 hgr6)
        go_roundw
        case rel => exact ⟨u / 128, cs ++ [((u : Int) % 128 + 128)], by (have e : ((u / 128 : Nat) : Int) = (u : Int) / 128 := by omega); rw [e], by omega, HO6.out, by rw [List.append_assoc, List.singleton_append, ← HEV.out]; exact HE.out, HB6.out⟩
        case measure => simp [intOf]; omega
  · have hz : n * 2 = ((zz n : Nat) : Int) := by unfold zz; rw [if_pos (by omega)]; omega
    go_enter Try.func123, Try.ntmps123
    go_wp2_with fail
    clear hn
    have HNB := Lib.hid (show vb (zz n) = numB n from rfl)
    have hnl := HNL.out
    rw [← HNB.out] at hnl
    have HNL2 := Lib.hid hnl
    clear hnl hz
    generalize zz n = u0 at *
    go_loopw [3, 4] (fun s v wr => ∃ (u : Nat) (cs : List Int), s = .int .u64 (u : Int) ∧ u < 18446744073709551616 ∧ OwnU wr w.heap.size v cs ∧ cs ++ vb u = vb u0 ∧ Below w.heap.size w wr) (fun s _ _ => (intOf s).toNat)
    case atStart => exact ⟨u0, [], rfl, HZL.out, OwnU.nil _ _, rfl, Below.refl _ _⟩
    case round =>
      obtain ⟨u, cs, rfl, hu, hown, he, hb⟩ := hrel
      have HB := Lib.hid hb; have HO := Lib.hid hown; have HE := Lib.hid he
      have hcl : cs.length ≤ 10 := by have h := HNL2.out; rw [← he, List.length_append] at h; omega
      have hbl : cs.length ≤ 1000000000 := by omega
      have HBL := Lib.hid hbl
      have hws := hb.size
      clear hb hown he hbl hcl
      by_cases hc : u < 128
      · have hby : IntKind.u8.wrap (u : Int) = (u : Int) := by rw [IntKind.wrap_u8]; omega
        have hby2 : (u : Int) % 256 = (u : Int) := by omega
        have HEV := Lib.hid (vb_low hc)
        have hz6 : w.heap.size ≤ (wr.alloc (.cells #[.int .u8 (u : Int)] 5)).heap.size := by rw [World.size_alloc]; omega
        have HX := Lib.hid (cell_new wr #[.int .u8 (u : Int)] 5 (0, 0) 0)
        go_wp2_with (at_builtin; refine wpList_pushNU rfl _ _ rfl w.heap.size _ cs rfl (HO.out.alloc _) wr.heap.size 1 (u : Int) rfl HX.out HBL.out hz6 ?_; intro g6 n6 cap6 w6 hown6 hg6 hgr6; have HO6 := Lib.hid hown6; have HB6 := Lib.hid ((HB.out.alloc hws _).grown hgr6 hz6 (fun q hq => (HO.out.lt q hq).1)); clear hown6 hgr6)
        refine bodyPost_ret (v := .slice (some ⟨g6, 0, none⟩) n6 cap6) (by simp [results, Try.results123, go_sem]) rfl ⟨_, rfl, ?_, HB6.out⟩
        have h9 := HO6.out
        rw [← HEV.out, HE.out, HNB.out] at h9
        exact h9
      · have htd : (u : Int).tdiv 128 = (u : Int) / 128 := Int.tdiv_eq_ediv_of_nonneg (by omega)
        have hwd : IntKind.u64.wrap ((u : Int) / 128) = (u : Int) / 128 := by rw [IntKind.wrap_u64]; omega
        have hw1 : IntKind.u64.wrap ((u : Int) % 128 + 128) = (u : Int) % 128 + 128 := by rw [IntKind.wrap_u64]; omega
        have hw2 : IntKind.u8.wrap ((u : Int) % 128 + 128) = (u : Int) % 128 + 128 := by rw [IntKind.wrap_u8]; omega
        have hw3 : ((u : Int) % 128 + 128) % 256 = (u : Int) % 128 + 128 := by omega
        have hev : vb u = ((u : Int) % 128 + 128) :: vb (u / 128) := by rw [vb_high (by omega)]; congr 1
        have HEV := Lib.hid hev
        have hz6 : w.heap.size ≤ (wr.alloc (.cells #[.int .u8 ((u : Int) % 128 + 128)] 5)).heap.size := by rw [World.size_alloc]; omega
        have HX := Lib.hid (cell_new wr #[.int .u8 ((u : Int) % 128 + 128)] 5 (0, 0) 0)
        clear hev
        go_wp2_with (at_builtin; refine wpList_pushNU rfl _ _ rfl w.heap.size _ cs rfl (HO.out.alloc _) wr.heap.size 1 ((u : Int) % 128 + 128) rfl HX.out HBL.out hz6 ?_; intro g6 n6 cap6 w6 hown6 hg6 hgr6; have HO6 := Lib.hid hown6; have HB6 := Lib.hid ((HB.out.alloc hws _).grown hgr6 hz6 (fun q hq => (HO.out.lt q hq).1)); clear hown6 hgr6)
        go_roundw
        case rel => exact ⟨u / 128, cs ++ [((u : Int) % 128 + 128)], by (have e : ((u / 128 : Nat) : Int) = (u : Int) / 128 := by omega); rw [e], by omega, HO6.out, by rw [List.append_assoc, List.singleton_append, ← HEV.out]; exact HE.out, HB6.out⟩
        case measure => simp [intOf]; omega
end Go.Proofs.Ytjpppdacamhhfaa
