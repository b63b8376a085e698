/- reach's weak, and the closure that holds weak slots against each other. Conditions: references that fit. -/
import Derived.Test.YtjpppdacamhhfaaAlkB
import Derived.Deep.RegionHeld3
namespace Go.Proofs.Ytjpppdacamhhfaa
open Go.RowKit
set_option linter.unusedVariables false

section
variable (ga Sa Ma n : Nat) (S : List Nat) (f : Nat → Bool) (ws : List Int) (o : Int) (w : World) (hM : MapI w Sa n (seenM S)) (hf : ∀ p, f p = decide (p ∈ S)) (ho : fitsB ws o = true)
include hM hf ho
set_option maxRecDepth 100000 in
theorem weak_any : Calls Try.prog 132 #[.agg #[.pointer (some ⟨ga, 0, none⟩), .map (some Sa), .map (some Ma)], .int .i64 o] w fun e w' => e = .returned (.int .i64 (weakO f o)) ∧ Below w.heap.size w w' := by
  obtain ⟨x1, x2⟩ := fits_bd ho
  have hx0 : Below w.heap.size w (w.alloc (.cells #[.pointer (some ⟨ga, 0, none⟩), .map (some Sa), .map (some Ma)] 153)) := (Below.refl _ _).alloc (Nat.le_refl _) _
  have HX0 := Lib.hid hx0
  have HM := Lib.hid (hM.below hx0 hM.lt)
  by_cases hk : kd o = 3
  · obtain ⟨o1, o2, o3⟩ := (kd_three o).1 hk
    have e1 : o / 2 = ((pcl o : Nat) : Int) := by unfold pcl; omega
    have e2 : o.tdiv 2 = ((pcl o : Nat) : Int) := by rw [Int.tdiv_eq_ediv_of_nonneg (by omega)]; exact e1
    have p1 : pcl o ≤ 5000 := by omega
    have e5 : IntKind.i64.wrap ((pcl o : Nat) : Int) = ((pcl o : Nat) : Int) := IntWalk.i64_in _ (by omega)
    have hkb : (kd o == 3) = true := by simpa using hk
    cases hp : f (pcl o)
    · have hw : weakO f o = 0 := by unfold weakO; rw [if_pos ⟨hk, hp⟩]
      have HW := Lib.hid hw
      have hd : decide (pcl o ∈ S) = false := by rw [← hf]; exact hp
      clear hM ho hk hx0 hf hp hw
      go_enter Try.func132, Try.ntmps132
      go_wp2_with (first
        | (go_at_call 31; refine (kind_any _ _ (by omega) (by omega)).mono ?_; rintro e w' ⟨rfl, rfl⟩)
        | (go_at_call 115; refine (has_any Sa n S (pcl o) _ HM.out (by omega)).mono ?_; rintro e w4 ⟨rfl, hb4⟩; have HB4 := Lib.hid hb4; clear hb4))
      go_ret
      exact ⟨by rw [HW.out]; rfl, HX0.out.trans (HB4.out.mono HX0.out.size)⟩
    · have hw : weakO f o = o := by unfold weakO; rw [if_neg (fun e => by rw [hp] at e; exact absurd e.2 (by decide))]
      have HW := Lib.hid hw
      have hd : decide (pcl o ∈ S) = true := by rw [← hf]; exact hp
      clear hM ho hk hx0 hf hp hw
      go_enter Try.func132, Try.ntmps132
      go_wp2_with (first
        | (go_at_call 31; refine (kind_any _ _ (by omega) (by omega)).mono ?_; rintro e w' ⟨rfl, rfl⟩)
        | (go_at_call 115; refine (has_any Sa n S (pcl o) _ HM.out (by omega)).mono ?_; rintro e w4 ⟨rfl, hb4⟩; have HB4 := Lib.hid hb4; clear hb4))
      go_ret
      exact ⟨by rw [HW.out]; rfl, HX0.out.trans (HB4.out.mono HX0.out.size)⟩
  · have hkb : (kd o == 3) = false := by simpa using hk
    have hw : weakO f o = o := by unfold weakO; rw [if_neg (fun e => hk e.1)]
    have HW := Lib.hid hw
    clear hM ho hk hx0 hf hw
    go_enter Try.func132, Try.ntmps132
    go_wp2_with (go_at_call 31; refine (kind_any _ _ (by omega) (by omega)).mono ?_; rintro e w' ⟨rfl, rfl⟩)
    go_ret
    exact ⟨by rw [HW.out]; rfl, HX0.out⟩
end
theorem weak_fits {ws : List Int} {f : Nat → Bool} {o : Int} (h : fitsB ws o = true) : fitsB ws (weakO f o) = true := by
  unfold weakO; split
  · exact fits_zero ws
  · exact h

/-- All that is known of two heaps while they are held against each other. -/
structure AlkC (ws rs vs qs : List Int) (f g : Nat → Bool) : Prop where
  ok : OkH ws
  fit : ∀ o ∈ rs, fitsB ws o = true
  tell : Tells ws rs f
  ok' : OkH vs
  fit' : ∀ o ∈ qs, fitsB vs o = true
  tell' : Tells vs qs g
theorem AlkC.few {ws rs vs qs : List Int} {f g : Nat → Bool} (h : AlkC ws rs vs qs f g) {ps : List (Nat × Nat)} (hI : PairsI f g ps) : ps.length ≤ 2000 := by
  have h1 : (ps.map Prod.fst).length ≤ (places ws).length := len_le hI.fn (fun p hp => by
    obtain ⟨y, hy⟩ := mem_fst hp
    exact (tell_fit h.ok h.fit h.tell (hI.rch _ _ hy).1).1)
  have h2 := places_len ws
  have h3 := h.ok.most
  rw [List.length_map] at h1
  omega
/-- The state that a closure carries on. -/
def AlkI (P Q0 ga Sa Ma gb Sb Mb k : Nat) (f g : Nat → Bool) (ps : List (Nat × Nat)) (w : World) : Prop := AlkS P Q0 ga Sa Ma gb Sb Mb ps k w ∧ PairsI f g ps ∧ k ≤ ps.length

set_option maxRecDepth 100000 in
theorem alike_st (P Q0 ga Sa Ma gb Sb Mb k : Nat) (ws rs vs qs : List Int) (f g : Nat → Bool) (hC : AlkC ws rs vs qs f g) (ps : List (Nat × Nat)) (o q : Int) (w : World) (hI : AlkI P Q0 ga Sa Ma gb Sb Mb k f g ps w)
    (ho : fitsB ws o = true) (hq : fitsB vs q = true) (ro : kd o = 3 → f (pcl o) = true) (rq : kd q = 3 → g (pcl q) = true) :
    Calls Try.prog 129 #[.pointer (some ⟨P, 0, none⟩), .int .i64 o, .int .i64 q] w fun e w' => e = .returned (.bool (alP ps o q).1) ∧ AlkI P Q0 ga Sa Ma gb Sb Mb k f g (alP ps o q).2 w' ∧ Turned w w' (alkT P Q0 Ma Mb) :=
  (alike_any P Q0 ga Sa Ma gb Sb Mb f g ws vs ps k o q w hI.1 hI.2.1 hI.2.2 (by have := hC.few hI.2.1; omega) ho hq).mono fun e w' h => ⟨h.1, ⟨h.2.1, hI.2.1.al ro rq, Nat.le_trans hI.2.2 (alP_pre ps o q).length_le⟩, h.2.2⟩

set_option maxRecDepth 100000 in
set_option maxHeartbeats 4000000 in
theorem weakc_any (P Q0 ga Sa Ma gb Sb Mb k T : Nat) (ws rs vs qs : List Int) (f g : Nat → Bool) (hC : AlkC ws rs vs qs f g) (ps : List (Nat × Nat)) (o q : Int) (w : World) (hI : AlkI P Q0 ga Sa Ma gb Sb Mb k f g ps w)
    (hT : Blk w T 151 #[.pointer (some ⟨P, 0, none⟩)]) (hTn : ¬ alkT P Q0 Ma Mb T) (na nb : Nat) (SA SB : List Nat) (hSa : MapI w Sa na (seenM SA)) (hfa : ∀ p, f p = decide (p ∈ SA)) (hSb : MapI w Sb nb (seenM SB)) (hgb : ∀ p, g p = decide (p ∈ SB)) (ho : fitsB ws o = true) (hq : fitsB vs q = true) :
    Calls Try.prog 131 #[.int .i64 o, .int .i64 q, .pointer (some ⟨T, 0, none⟩)] w fun e w' => e = .returned (.bool (alP ps (weakO f o) (weakO g q)).1) ∧ AlkI P Q0 ga Sa Ma gb Sb Mb k f g (alP ps (weakO f o) (weakO g q)).2 w' ∧ Turned w w' (alkT P Q0 Ma Mb) := by
  obtain ⟨A, nq, cq, hblk, hqu⟩ := hI.1.blk
  obtain ⟨c0, c1, c2, c3, c4, c5, c6, cf, clt⟩ := hblk.f7
  obtain ⟨t1, t2, t3⟩ := hT.f1
  have hd : Below w.heap.size w w.drew := (Below.refl _ _).drew
  have hcell : ∀ W, Below w.heap.size w W → W.cell? ⟨T, 0, none⟩ = some (.pointer (some ⟨P, 0, none⟩)) ∧ W.cell? ⟨P, 0, none⟩ = some (.pointer (some ⟨ga, 0, none⟩)) ∧ W.cell? ⟨P, 1, none⟩ = some (.map (some Sa)) ∧ W.cell? ⟨P, 2, none⟩ = some (.map (some Ma)) ∧
      W.cell? ⟨P, 3, none⟩ = some (.pointer (some ⟨gb, 0, none⟩)) ∧ W.cell? ⟨P, 4, none⟩ = some (.map (some Sb)) ∧ W.cell? ⟨P, 5, none⟩ = some (.map (some Mb)) := fun W h =>
    ⟨(h.cell (p := ⟨T, 0, none⟩) t3).trans t1, (h.cell (p := ⟨P, 0, none⟩) clt).trans c0, (h.cell (p := ⟨P, 1, none⟩) clt).trans c1, (h.cell (p := ⟨P, 2, none⟩) clt).trans c2, (h.cell (p := ⟨P, 3, none⟩) clt).trans c3, (h.cell (p := ⟨P, 4, none⟩) clt).trans c4, (h.cell (p := ⟨P, 5, none⟩) clt).trans c5⟩
  have HCELL := Lib.hid hcell; have HD := Lib.hid hd
  have hwa : ∀ W, Below w.heap.size w W → Calls Try.prog 132 #[.agg #[.pointer (some ⟨ga, 0, none⟩), .map (some Sa), .map (some Ma)], .int .i64 o] W fun e w' => e = .returned (.int .i64 (weakO f o)) ∧ Below w.heap.size w w' := fun W h =>
    (weak_any ga Sa Ma na SA f ws o W (hSa.below h hSa.lt) hfa ho).mono fun e w' h' => ⟨h'.1, h.trans (h'.2.mono h.size)⟩
  have hwb : ∀ W, Below w.heap.size w W → Calls Try.prog 132 #[.agg #[.pointer (some ⟨gb, 0, none⟩), .map (some Sb), .map (some Mb)], .int .i64 q] W fun e w' => e = .returned (.int .i64 (weakO g q)) ∧ Below w.heap.size w w' := fun W h =>
    (weak_any gb Sb Mb nb SB g vs q W (hSb.below h hSb.lt) hgb hq).mono fun e w' h' => ⟨h'.1, h.trans (h'.2.mono h.size)⟩
  have hal : ∀ W, Below w.heap.size w W → Calls Try.prog 129 #[.pointer (some ⟨P, 0, none⟩), .int .i64 (weakO f o), .int .i64 (weakO g q)] W fun e w' => e = .returned (.bool (alP ps (weakO f o) (weakO g q)).1) ∧ AlkI P Q0 ga Sa Ma gb Sb Mb k f g (alP ps (weakO f o) (weakO g q)).2 w' ∧ Turned w w' (alkT P Q0 Ma Mb) := fun W h =>
    (alike_st P Q0 ga Sa Ma gb Sb Mb k ws rs vs qs f g hC ps _ _ W ⟨hI.1.keep h, hI.2⟩ (weak_fits ho) (weak_fits hq) (weakO_rch f o) (weakO_rch g q)).mono fun e w' h' => ⟨h'.1, h'.2.1, (turned_of_below h).trans h'.2.2 (fun _ _ e => e)⟩
  have HWA := Lib.hid hwa; have HWB := Lib.hid hwb; have HAL := Lib.hid hal
  have hP : ∀ (ps' : List (Nat × Nat)) W, AlkI P Q0 ga Sa Ma gb Sb Mb k f g ps' W → Turned w W (alkT P Q0 Ma Mb) → W.cell? ⟨T, 0, none⟩ = some (.pointer (some ⟨P, 0, none⟩)) ∧ W.cell? ⟨P, 0, none⟩ = some (.pointer (some ⟨ga, 0, none⟩)) ∧ W.cell? ⟨P, 1, none⟩ = some (.map (some Sa)) ∧ W.cell? ⟨P, 2, none⟩ = some (.map (some Ma)) ∧
      W.cell? ⟨P, 3, none⟩ = some (.pointer (some ⟨gb, 0, none⟩)) ∧ W.cell? ⟨P, 4, none⟩ = some (.map (some Sb)) ∧ W.cell? ⟨P, 5, none⟩ = some (.map (some Mb)) := fun ps' W h1 h2 => by
    obtain ⟨A', n', c', hbk, _⟩ := h1.1.blk
    obtain ⟨d0, d1, d2, d3, d4, d5, _⟩ := hbk.f7
    exact ⟨(h2.blk hT hTn).f1.1, d0, d1, d2, d3, d4, d5⟩
  have HP := Lib.hid hP
  clear hI hT hSa hfa hSb hgb ho hq hblk hqu hd hcell hwa hwb hal hP
  generalize alP ps (weakO f o) (weakO g q) = r at *
  go_enter Try.func131, Try.ntmps131
  go_wp2_with fail
  have hS0 := HCELL.out _ HD.out
  obtain ⟨s0, s1, s2, s3, s4, s5, s6⟩ := HCELL.out _ (Below.refl _ w)
  go_region_held3 (fun w' => w'.cell? ⟨T, 0, none⟩ = some (.pointer (some ⟨P, 0, none⟩)) ∧ w'.cell? ⟨P, 0, none⟩ = some (.pointer (some ⟨ga, 0, none⟩)) ∧ w'.cell? ⟨P, 1, none⟩ = some (.map (some Sa)) ∧ w'.cell? ⟨P, 2, none⟩ = some (.map (some Ma)) ∧
      w'.cell? ⟨P, 3, none⟩ = some (.pointer (some ⟨gb, 0, none⟩)) ∧ w'.cell? ⟨P, 4, none⟩ = some (.map (some Sb)) ∧ w'.cell? ⟨P, 5, none⟩ = some (.map (some Mb)))
    (first | exact hS3 | exact hS2 | exact hS1 | exact hS0 | go_keep)
    (first
      | (go_at_call 132; with_reducible refine (HWA.out _ HD.out).mono ?_; rintro e w1 ⟨rfl, hb1⟩; have HB1 := Lib.hid hb1; have hS1 := HCELL.out _ hb1; clear hb1)
      | (go_at_call 132; with_reducible refine (HWB.out _ HD.out).mono ?_; rintro e w1 ⟨rfl, hb1⟩; have HB1 := Lib.hid hb1; have hS1 := HCELL.out _ hb1; clear hb1)
      | (go_at_call 132; with_reducible refine (HWA.out _ HB1.out).mono ?_; rintro e w2 ⟨rfl, hb2⟩; have HB2 := Lib.hid hb2; have hS2 := HCELL.out _ hb2; clear hb2)
      | (go_at_call 132; with_reducible refine (HWB.out _ HB1.out).mono ?_; rintro e w2 ⟨rfl, hb2⟩; have HB2 := Lib.hid hb2; have hS2 := HCELL.out _ hb2; clear hb2)
      | (go_at_call 129; with_reducible refine (HAL.out _ HB2.out).mono ?_; rintro e w3 ⟨rfl, hr1, hr2⟩; have HR1 := Lib.hid hr1; have HR2 := Lib.hid hr2; have hS3 := HP.out _ _ hr1 hr2; clear hr1 hr2))
  all_goals go_wp2
  all_goals refine bodyPost_ret (v := .bool r.1) (by simp [results, Try.results131, go_sem]) rfl ⟨rfl, HR1.out, HR2.out⟩
end Go.Proofs.Ytjpppdacamhhfaa
