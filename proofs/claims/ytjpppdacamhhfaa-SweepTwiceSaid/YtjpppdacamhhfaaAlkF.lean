/- alike, where nothing is given anew: nothing turns. Conditions: references that fit. -/
import Derived.Test.YtjpppdacamhhfaaAlkC
namespace Go.Proofs.Ytjpppdacamhhfaa
open Go.RowKit
set_option linter.unusedVariables false

set_option maxRecDepth 100000 in
set_option maxHeartbeats 4000000 in
theorem alike_stay (P Q0 ga Sa Ma gb Sb Mb : Nat) (f g : Nat → Bool) (ws vs : List Int) (ps : List (Nat × Nat)) (k : Nat) (o q : Int) (w : World) (hS : AlkS P Q0 ga Sa Ma gb Sb Mb ps k w) (hI : PairsI f g ps) (hst : (alP ps o q).2 = ps)
    (ho : fitsB ws o = true) (hq : fitsB vs q = true) :
    Calls Try.prog 129 #[.pointer (some ⟨P, 0, none⟩), .int .i64 o, .int .i64 q] w (fun e w' => e = .returned (.bool (alP ps o q).1) ∧ w = w') := by
  obtain ⟨x1, x2⟩ := fits_bd ho
  obtain ⟨x3, x4⟩ := fits_bd hq
  by_cases h1 : kd o ≠ 3 ∨ kd q ≠ 3
  · have hal : alP ps o q = (decide (o = q), ps) := by unfold alP; rw [if_pos h1]
    have HAL := Lib.hid hal
    by_cases ho3 : kd o = 3
    · have hq3 : kd q ≠ 3 := h1.resolve_left (fun e => e ho3)
      have b1 : (kd o != 3) = false := by simpa using ho3
      have b2 : (kd q != 3) = true := by simpa using hq3
      clear hst hS hI ho hq h1 ho3 hq3 hal
      go_enter Try.func129, Try.ntmps129
      go_wp2_with (go_at_call 31; refine (kind_any _ _ (by omega) (by omega)).mono ?_; rintro e w' ⟨rfl, rfl⟩)
      go_ret
      rw [HAL.out]
      exact ⟨rfl, rfl⟩
    · have b1 : (kd o != 3) = true := by simpa using ho3
      clear hst hS hI ho hq h1 ho3 hal
      go_enter Try.func129, Try.ntmps129
      go_wp2_with (go_at_call 31; refine (kind_any _ _ (by omega) (by omega)).mono ?_; rintro e w' ⟨rfl, rfl⟩)
      go_ret
      rw [HAL.out]
      exact ⟨rfl, rfl⟩
  · have ho3 : kd o = 3 := Classical.byContradiction fun e => h1 (.inl e)
    have hq3 : kd q = 3 := Classical.byContradiction fun e => h1 (.inr e)
    have b1 : (kd o != 3) = false := by simpa using ho3
    have b2 : (kd q != 3) = false := by simpa using hq3
    obtain ⟨o1, o2, o3⟩ := (kd_three o).1 ho3
    obtain ⟨q1, q2, q3⟩ := (kd_three q).1 hq3
    have e1 : o / 2 = ((pcl o : Nat) : Int) := by unfold pcl; omega
    have e2 : o.tdiv 2 = ((pcl o : Nat) : Int) := by rw [Int.tdiv_eq_ediv_of_nonneg (by omega)]; exact e1
    have e3 : q / 2 = ((pcl q : Nat) : Int) := by unfold pcl; omega
    have e4 : q.tdiv 2 = ((pcl q : Nat) : Int) := by rw [Int.tdiv_eq_ediv_of_nonneg (by omega)]; exact e3
    have p1 : pcl o ≤ 5000 := by omega
    have p2 : pcl q ≤ 5000 := by omega
    have e5 : IntKind.i64.wrap ((pcl o : Nat) : Int) = ((pcl o : Nat) : Int) := IntWalk.i64_in _ (by omega)
    have e6 : IntKind.i64.wrap ((pcl q : Nat) : Int) = ((pcl q : Nat) : Int) := IntWalk.i64_in _ (by omega)
    obtain ⟨A, nq, cq, hblk, hqu⟩ := hS.blk
    obtain ⟨n1, hma⟩ := hS.ma
    obtain ⟨n2, hmb⟩ := hS.mb
    obtain ⟨c0, c1, c2, c3, c4, c5, c6, cf, clt⟩ := hblk.f7
    have hra := hma.look (t := 110) (e := 3) Try.underlying110 (zero3 _) true ((pcl o : Nat) : Int) (by omega) (by omega)
    have hrb := hmb.look (t := 110) (e := 3) Try.underlying110 (zero3 _) true ((pcl q : Nat) : Int) (by omega) (by omega)
    simp only [if_true] at hra hrb
    have hsn : ((ps.map Prod.swap).map Prod.fst).Nodup := by rw [swap_fst]; exact hI.sn
    by_cases hin : (pcl o, pcl q) ∈ ps
    · have hal : alP ps o q = (true, ps) := by unfold alP; rw [if_neg h1, if_pos hin]
      have HAL := Lib.hid hal
      rw [toM_some hI.fn hin] at hra
      rw [toM_some hsn (swap_mem.2 hin)] at hrb
      simp only [Option.getD_some, Option.isSome_some] at hra hrb
      clear hst hS hI ho hq h1 ho3 hq3 hal hblk hqu hma hmb hsn hin
      go_enter Try.func129, Try.ntmps129
      go_wp2_with (go_at_call 31; refine (kind_any _ _ (by omega) (by omega)).mono ?_; rintro e w' ⟨rfl, rfl⟩)
      go_ret
      rw [HAL.out]
      exact ⟨rfl, rfl⟩
    · by_cases hor : pcl o ∈ ps.map Prod.fst ∨ pcl q ∈ ps.map Prod.snd
      · have hal : alP ps o q = (false, ps) := by unfold alP; rw [if_neg h1, if_neg hin, if_pos hor]
        have HAL := Lib.hid hal
        by_cases hf : pcl o ∈ ps.map Prod.fst
        · obtain ⟨y, hy⟩ := mem_fst hf
          have hne : y ≠ pcl q := fun e => hin (by rw [← e]; exact hy)
          rw [toM_some hI.fn hy] at hra
          simp only [Option.getD_some, Option.isSome_some] at hra
          have hneb : (((y : Nat) : Int) == ((pcl q : Nat) : Int)) = false := by simp; omega
          by_cases hg : pcl q ∈ ps.map Prod.snd
          · obtain ⟨x, hx⟩ := mem_snd hg
            rw [toM_some hsn (swap_mem.2 hx)] at hrb
            simp only [Option.getD_some, Option.isSome_some] at hrb
            clear hst hS hI ho hq h1 ho3 hq3 hal hblk hqu hma hmb hsn hin hor hf hg hy hx hne
            go_enter Try.func129, Try.ntmps129
            go_wp2_with (go_at_call 31; refine (kind_any _ _ (by omega) (by omega)).mono ?_; rintro e w' ⟨rfl, rfl⟩)
            go_ret
            rw [HAL.out]
            exact ⟨rfl, rfl⟩
          · rw [toM_none (by rw [swap_fst]; exact hg)] at hrb
            simp only [Option.getD_none, Option.isSome_none] at hrb
            clear hst hS hI ho hq h1 ho3 hq3 hal hblk hqu hma hmb hsn hin hor hf hg hy hne
            go_enter Try.func129, Try.ntmps129
            go_wp2_with (go_at_call 31; refine (kind_any _ _ (by omega) (by omega)).mono ?_; rintro e w' ⟨rfl, rfl⟩)
            go_ret
            rw [HAL.out]
            exact ⟨rfl, rfl⟩
        · obtain ⟨x, hx⟩ := mem_snd (hor.resolve_left hf)
          rw [toM_none hf] at hra
          simp only [Option.getD_none, Option.isSome_none] at hra
          rw [toM_some hsn (swap_mem.2 hx)] at hrb
          simp only [Option.getD_some, Option.isSome_some] at hrb
          clear hst hS hI ho hq h1 ho3 hq3 hal hblk hqu hma hmb hsn hin hor hf hx
          go_enter Try.func129, Try.ntmps129
          go_wp2_with (go_at_call 31; refine (kind_any _ _ (by omega) (by omega)).mono ?_; rintro e w' ⟨rfl, rfl⟩)
          go_ret
          rw [HAL.out]
          exact ⟨rfl, rfl⟩
      · have hal : alP ps o q = (true, ps ++ [(pcl o, pcl q)]) := by unfold alP; rw [if_neg h1, if_neg hin, if_neg hor]
        rw [hal] at hst
        exact absurd hst (by simp)

set_option maxRecDepth 100000 in
set_option maxHeartbeats 4000000 in
theorem weakc_stay (P Q0 ga Sa Ma gb Sb Mb k T : Nat) (ws rs vs qs : List Int) (f g : Nat → Bool) (hC : AlkC ws rs vs qs f g) (ps : List (Nat × Nat)) (o q : Int) (w : World) (hI : AlkI P Q0 ga Sa Ma gb Sb Mb k f g ps w)
    (hT : Blk w T 151 #[.pointer (some ⟨P, 0, none⟩)]) (na nb : Nat) (SA SB : List Nat) (hSa : MapI w Sa na (seenM SA)) (hfa : ∀ p, f p = decide (p ∈ SA)) (hSb : MapI w Sb nb (seenM SB)) (hgb : ∀ p, g p = decide (p ∈ SB)) (ho : fitsB ws o = true) (hq : fitsB vs q = true) (hst : (alP ps (weakO f o) (weakO g q)).2 = ps) :
    Calls Try.prog 131 #[.int .i64 o, .int .i64 q, .pointer (some ⟨T, 0, none⟩)] w fun e w' => e = .returned (.bool (alP ps (weakO f o) (weakO g q)).1) ∧ Below w.heap.size w w' := by
  obtain ⟨A, nq, cq, hblk, hqu⟩ := hI.1.blk
  obtain ⟨c0, c1, c2, c3, c4, c5, c6, cf, clt⟩ := hblk.f7
  obtain ⟨t1, t2, t3⟩ := hT.f1
  have hd : Below w.heap.size w w.drew := (Below.refl _ _).drew
  have hcell : ∀ W, Below w.heap.size w W → W.cell? ⟨T, 0, none⟩ = some (.pointer (some ⟨P, 0, none⟩)) ∧ W.cell? ⟨P, 0, none⟩ = some (.pointer (some ⟨ga, 0, none⟩)) ∧ W.cell? ⟨P, 1, none⟩ = some (.map (some Sa)) ∧ W.cell? ⟨P, 2, none⟩ = some (.map (some Ma)) ∧
      W.cell? ⟨P, 3, none⟩ = some (.pointer (some ⟨gb, 0, none⟩)) ∧ W.cell? ⟨P, 4, none⟩ = some (.map (some Sb)) ∧ W.cell? ⟨P, 5, none⟩ = some (.map (some Mb)) := fun W h =>
    ⟨(h.cell (p := ⟨T, 0, none⟩) t3).trans t1, (h.cell (p := ⟨P, 0, none⟩) clt).trans c0, (h.cell (p := ⟨P, 1, none⟩) clt).trans c1, (h.cell (p := ⟨P, 2, none⟩) clt).trans c2, (h.cell (p := ⟨P, 3, none⟩) clt).trans c3, (h.cell (p := ⟨P, 4, none⟩) clt).trans c4, (h.cell (p := ⟨P, 5, none⟩) clt).trans c5⟩
  have HCELL := Lib.hid hcell; have HD := Lib.hid hd
  have hwa : ∀ W, Below w.heap.size w W → Calls Try.prog 132 #[.agg #[.pointer (some ⟨ga, 0, none⟩), .map (some Sa), .map (some Ma)], .int .i64 o] W fun e w' => e = .returned (.int .i64 (weakO f o)) ∧ Below w.heap.size w w' := fun W h =>
    (weak_any ga Sa Ma na SA f ws o W (hSa.below h hSa.lt) hfa ho).mono fun e w' h' => ⟨h'.1, h.trans (h'.2.mono h.size)⟩
  have hwb : ∀ W, Below w.heap.size w W → Calls Try.prog 132 #[.agg #[.pointer (some ⟨gb, 0, none⟩), .map (some Sb), .map (some Mb)], .int .i64 q] W fun e w' => e = .returned (.int .i64 (weakO g q)) ∧ Below w.heap.size w w' := fun W h =>
    (weak_any gb Sb Mb nb SB g vs q W (hSb.below h hSb.lt) hgb hq).mono fun e w' h' => ⟨h'.1, h.trans (h'.2.mono h.size)⟩
  have hal : ∀ W, Below w.heap.size w W → Calls Try.prog 129 #[.pointer (some ⟨P, 0, none⟩), .int .i64 (weakO f o), .int .i64 (weakO g q)] W fun e w' => e = .returned (.bool (alP ps (weakO f o) (weakO g q)).1) ∧ Below w.heap.size w w' := fun W h =>
    (alike_stay P Q0 ga Sa Ma gb Sb Mb f g ws vs ps k _ _ W (hI.1.keep h) hI.2.1 hst (weak_fits ho) (weak_fits hq)).mono fun e w' h' => ⟨h'.1, by rw [← h'.2]; exact h⟩
  have HWA := Lib.hid hwa; have HWB := Lib.hid hwb; have HAL := Lib.hid hal
  clear hI hT hSa hfa hSb hgb ho hq hblk hqu hd hcell hwa hwb hal hst
  generalize alP ps (weakO f o) (weakO g q) = r at *
  go_enter Try.func131, Try.ntmps131
  go_wp2_with fail
  have hS0 := HCELL.out _ HD.out
  obtain ⟨s0, s1, s2, s3, s4, s5, s6⟩ := HCELL.out _ (Below.refl _ w)
  go_region_held3 (fun w' => w'.cell? ⟨T, 0, none⟩ = some (.pointer (some ⟨P, 0, none⟩)) ∧ w'.cell? ⟨P, 0, none⟩ = some (.pointer (some ⟨ga, 0, none⟩)) ∧ w'.cell? ⟨P, 1, none⟩ = some (.map (some Sa)) ∧ w'.cell? ⟨P, 2, none⟩ = some (.map (some Ma)) ∧
      w'.cell? ⟨P, 3, none⟩ = some (.pointer (some ⟨gb, 0, none⟩)) ∧ w'.cell? ⟨P, 4, none⟩ = some (.map (some Sb)) ∧ w'.cell? ⟨P, 5, none⟩ = some (.map (some Mb)))
    (first | exact hS3 | exact hS2 | exact hS1 | exact hS0 | go_keep)
    (first
      | (go_at_call 132; with_reducible refine (HWA.out _ HD.out).mono ?_; rintro e w1 ⟨rfl, hb1⟩; have HB1 := Lib.hid hb1; have hS1 := HCELL.out _ hb1; clear hb1)
      | (go_at_call 132; with_reducible refine (HWB.out _ HD.out).mono ?_; rintro e w1 ⟨rfl, hb1⟩; have HB1 := Lib.hid hb1; have hS1 := HCELL.out _ hb1; clear hb1)
      | (go_at_call 132; with_reducible refine (HWA.out _ HB1.out).mono ?_; rintro e w2 ⟨rfl, hb2⟩; have HB2 := Lib.hid hb2; have hS2 := HCELL.out _ hb2; clear hb2)
      | (go_at_call 132; with_reducible refine (HWB.out _ HB1.out).mono ?_; rintro e w2 ⟨rfl, hb2⟩; have HB2 := Lib.hid hb2; have hS2 := HCELL.out _ hb2; clear hb2)
      | (go_at_call 129; with_reducible refine (HAL.out _ HB2.out).mono ?_; rintro e w3 ⟨rfl, hr1⟩; have HR1 := Lib.hid hr1; have hS3 := HCELL.out _ hr1; clear hr1))
  all_goals go_wp2
  all_goals refine bodyPost_ret (v := .bool r.1) (by simp [results, Try.results131, go_sem]) rfl ⟨rfl, HR1.out⟩
end Go.Proofs.Ytjpppdacamhhfaa
