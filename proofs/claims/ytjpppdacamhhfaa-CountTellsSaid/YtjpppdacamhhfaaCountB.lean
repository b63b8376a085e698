/- count's given and its closures, where they count. Conditions: a view of a heap that may be. -/
import Derived.Test.YtjpppdacamhhfaaCountA
import Derived.Test.YtjpppdacamhhfaaMover
namespace Go.Proofs.Ytjpppdacamhhfaa
open Go.RowKit
set_option linter.unusedVariables false

/-- How often the thing p is among some references. -/
def cntF (L : List Int) (p : Nat) : Int := ((L.filter fun o => kd o == 3 && pcl o == p).length : Nat)
theorem cntF_nil : cntF [] = fun _ => 0 := rfl
theorem cntF_thing {L : List Int} {o : Int} (hk : kd o = 3) : cntF (L ++ [o]) = addF (cntF L) (pcl o) 1 := by
  funext p
  unfold cntF addF
  rw [List.filter_append, List.length_append]
  by_cases h : p = pcl o
  · subst h; simp [hk]
  · have h' : pcl o ≠ p := fun e => h e.symm
    simp [hk, h, h']
theorem cntF_other {L : List Int} {o : Int} (hk : kd o ≠ 3) : cntF (L ++ [o]) = cntF L := by
  funext p
  unfold cntF
  rw [List.filter_append, List.length_append]
  simp [hk]
theorem cntF_bd (L : List Int) (p : Nat) : 0 ≤ cntF L p ∧ cntF L p ≤ L.length := by
  have := List.length_filter_le (fun o => kd o == 3 && pcl o == p) L
  unfold cntF; omega

/-- Where count has got to: what references it has been told. -/
structure CntS (w0 w : World) (F Bx M : Nat) (L : List Int) : Prop where
  blk : Blk w Bx 110 #[.map (some M)]
  map_ : ∃ n D, MapI w M n (numM D (cntF L)) ∧ ∀ q, q ∉ D → cntF L q = 0
  below : Below F w0 w
  lo : F ≤ M ∧ F ≤ Bx ∧ Bx ≠ M ∧ F ≤ w.heap.size
section
variable {w0 w : World} {F Bx M : Nat} {L : List Int} (h : CntS w0 w F Bx M L)
include h
theorem CntS.turn {w' : World} (hb : Below w.heap.size w w') : CntS w0 w' F Bx M L := by
  obtain ⟨n, D, hm, hz⟩ := h.map_
  exact ⟨h.blk.below hb h.blk.lt, ⟨n, D, hm.below hb hm.lt, hz⟩, h.below.trans (hb.mono h.lo.2.2.2), h.lo.1, h.lo.2.1, h.lo.2.2.1, Nat.le_trans h.lo.2.2.2 hb.size⟩
end
/-- The closure that counts, as a value. -/
abbrev cntV (Bx : Nat) : Value := .func (.func 150) #[] #[.pointer (some ⟨Bx, 0, none⟩)]

section
variable (ws : List Int) (w0 w : World) (F Bx M Bf : Nat) (L : List Int) (o : Int) (hS : CntS w0 w F Bx M L) (hBf : Blk w Bf 126 #[cntV Bx]) (hL : L.length ≤ 100000000) (ho : fitsB ws o = true)
include hS hBf hL ho
set_option maxRecDepth 100000 in
theorem tell1_any : Calls Try.prog 151 #[.int .i64 o, .pointer (some ⟨Bf, 0, none⟩)] w fun e w' => e = .returned (.tuple #[]) ∧ CntS w0 w' F Bx M (L ++ [o]) ∧ Turned w w' (fun k => k = M) := by
  obtain ⟨x1, x2⟩ := fits_bd ho
  obtain ⟨n, D, hm, hz⟩ := hS.map_
  obtain ⟨y1, y2, y3⟩ := hBf.f1
  have HS := Lib.hid hS
  by_cases hk : kd o = 3
  · have hkb : (kd o == 3) = true := by simpa using hk
    have hbd := cntF_bd L (pcl o)
    have hcall := count1_any Bx M n D (cntF L) o w hS.blk hm (hz (pcl o)) (by omega) hk
    have HC := Lib.hid hcall
    have HE := Lib.hid (cntF_thing (L := L) hk)
    have HZ := Lib.hid (addF_zero hz (pcl o) 1)
    clear hS hBf ho hk hm hz hcall hbd
    go_enter Try.func151, Try.ntmps151
    go_wp2_with (first
      | (go_at_call 31; refine (kind_any _ _ (by omega) (by omega)).mono ?_; rintro e w' ⟨rfl, rfl⟩)
      | (go_at_call 150; refine HC.out.mono ?_; rintro e w5 ⟨rfl, hm5, hg5⟩; have HM5 := Lib.hid hm5; have HG5 := Lib.hid hg5; clear hm5 hg5))
    go_end0
    have hlo := HS.out.lo
    refine ⟨rfl, ⟨HS.out.blk.grown HG5.out (fun e => ?_), ⟨_, _, by rw [HE.out]; exact HM5.out, by rw [HE.out]; exact HZ.out⟩, HS.out.below.grown HG5.out hlo.2.2.2 (fun k e => ?_), hlo.1, hlo.2.1, hlo.2.2.1, Nat.le_trans hlo.2.2.2 HG5.out.size⟩, (Turned.refl _ _).grown HG5.out (fun k e => .inl (by cases e; rfl))⟩
    · exact hlo.2.2.1 (by cases e; rfl)
    · cases e; exact hlo.1
  · have hkb : (kd o == 3) = false := by simpa using hk
    have HE := Lib.hid (cntF_other (L := L) hk)
    clear hS hBf ho hk hm hz
    go_enter Try.func151, Try.ntmps151
    go_wp2_with (go_at_call 31; refine (kind_any _ _ (by omega) (by omega)).mono ?_; rintro e w' ⟨rfl, rfl⟩)
    go_end0
    refine ⟨rfl, ?_, Turned.refl _ _⟩
    have h := HS.out
    obtain ⟨n, D, hm, hz⟩ := h.map_
    exact ⟨h.blk, ⟨n, D, by rw [HE.out]; exact hm, by rw [HE.out]; exact hz⟩, h.below, h.lo⟩
end
end Go.Proofs.Ytjpppdacamhhfaa
