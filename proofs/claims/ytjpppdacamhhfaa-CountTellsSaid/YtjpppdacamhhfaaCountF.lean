/- gessoref17's one: one more of a thing. Conditions: a reference that fits. -/
import Derived.Test.YtjpppdacamhhfaaCountE
import Derived.Test.YtjpppdacamhhfaaRCheck
namespace Go.Proofs.Ytjpppdacamhhfaa
open Go.RowKit
set_option linter.unusedVariables false

def cntRow (L : List Int) (N : Nat) : List Int := (List.range N).map (cntF L)
theorem cntRow_len (L : List Int) (N : Nat) : (cntRow L N).length = N := by simp [cntRow]
theorem cntRow_nth {L : List Int} {N p : Nat} (hp : p < N) : nth (cntRow L N) p = cntF L p := by
  unfold cntRow; simp [nth, hp]
section
variable (ws : List Int) (F G cN N : Nat) (L : List Int) (o : Int) (w : World) (hO : Own w F (.slice (some ⟨G, 0, none⟩) N cN) (cntRow L N)) (ho : fitsB ws o = true) (hN : ws.length ≤ N) (hL : L.length ≤ 100000000)
include hO ho hN hL
set_option maxRecDepth 100000 in
theorem one_more_any : Calls Try.prog 112 #[.slice (some ⟨G, 0, none⟩) N cN, .int .i64 o] w fun e w' => e = .returned (.tuple #[]) ∧ Own w' F (.slice (some ⟨G, 0, none⟩) N cN) (cntRow (L ++ [o]) N) ∧ Turned w w' (fun k => k = G) := by
  obtain ⟨x1, x2⟩ := fits_bd ho
  by_cases hk : kd o = 3
  · obtain ⟨k0, k1, k2⟩ := (kd_three o).1 hk
    have hpl := (places_mem (fits_pl ho hk)).2.1
    have e1 : (o / 2).toNat = pcl o := rfl
    have e2 : o / 2 = ((pcl o : Nat) : Int) := by unfold pcl; omega
    have hkb : (kd o == 3) = true := by simpa using hk
    have hc := hO.cell (pcl o) (by rw [cntRow_len]; omega)
    rw [cntRow_nth (by omega)] at hc
    have hfz := hO.frz (pcl o)
    have hbd := cntF_bd L (pcl o)
    have hput := hO.put (pcl o) (cntF L (pcl o) + 1)
    have hrow : (cntRow L N).set (pcl o) (cntF L (pcl o) + 1) = cntRow (L ++ [o]) N := by
      apply list_ext_nth
      · rw [List.length_set, cntRow_len, cntRow_len]
      · intro j hj
        rw [List.length_set, cntRow_len] at hj
        rw [cntRow_nth hj, cntF_thing hk]
        unfold addF
        by_cases e : j = pcl o
        · subst e; rw [nth_set_eq (by rw [cntRow_len]; exact hj), if_pos rfl]
        · rw [nth_set_ne (fun e' => e e'.symm), if_neg e, cntRow_nth hj]
    rw [hrow] at hput
    have HP := Lib.hid hput
    obtain ⟨b1, b2⟩ := hbd
    have e3 : o.tdiv 2 = ((pcl o : Nat) : Int) := by rw [Int.tdiv_eq_ediv_of_nonneg (by omega)]; exact e2
    have g1 : ((pcl o : Nat) : Int) < (N : Int) := by omega
    have e4 : IntKind.i64.wrap (cntF L (pcl o) + 1) = cntF L (pcl o) + 1 := IntWalk.i64_in _ (by omega)
    clear hO ho hk k0 hrow hput
    go_enter Try.func112, Try.ntmps112
    go_wp2_with (go_at_call 34; refine (rkind_any _ _ (by omega) (by omega)).mono ?_; rintro e w' ⟨rfl, rfl⟩)
    go_end0
    exact ⟨rfl, HP.out, (Turned.refl w (fun k => k = G)).setCell (.inl rfl) _⟩
  · have hkb : (kd o == 3) = false := by simpa using hk
    have hrow : cntRow (L ++ [o]) N = cntRow L N := by unfold cntRow; rw [cntF_other hk]
    have HR := Lib.hid hrow
    have HO := Lib.hid hO
    clear hO ho hk hrow
    go_enter Try.func112, Try.ntmps112
    go_wp2_with (go_at_call 34; refine (rkind_any _ _ (by omega) (by omega)).mono ?_; rintro e w' ⟨rfl, rfl⟩)
    go_end0
    exact ⟨rfl, by rw [HR.out]; exact HO.out, Turned.refl _ _⟩
end
end Go.Proofs.Ytjpppdacamhhfaa
