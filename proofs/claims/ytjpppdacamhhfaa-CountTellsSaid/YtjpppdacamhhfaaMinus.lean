/- count.Trial's first closure takes one away, wherever it is told of a thing. Conditions: references that fit. -/
import Derived.Test.YtjpppdacamhhfaaHeld
namespace Go.Proofs.Ytjpppdacamhhfaa
open Go.RowKit
set_option linter.unusedVariables false

section
variable (Bx M n : Nat) (D : List Nat) (f : Nat → Int) (o : Int) (w : World) (hb : Blk w Bx 110 #[.map (some M)]) (hM : MapI w M n (numM D f)) (hz : pcl o ∉ D → f (pcl o) = 0)
    (hbd : -1000000000 ≤ f (pcl o) ∧ f (pcl o) ≤ 1000000000) (hk : kd o = 3)
include hb hM hz hbd hk
set_option maxRecDepth 100000 in
theorem minus1_any : Calls Try.prog 110 #[.int .i64 o, .pointer (some ⟨Bx, 0, none⟩)] w fun e w' => e = .returned (.tuple #[]) ∧ MapI w' M (n + 1) (numM (D ++ [pcl o]) (addF f (pcl o) (-1))) ∧ w.grownBy w' (some M) := by
  obtain ⟨k0, k1, k2⟩ := (kd_three o).1 hk
  have e2 : o / 2 = ((pcl o : Nat) : Int) := by unfold pcl; omega
  have e3 : o.tdiv 2 = ((pcl o : Nat) : Int) := by rw [Int.tdiv_eq_ediv_of_nonneg (by omega)]; exact e2
  have hpl : pcl o ≤ 5000 := by omega
  have hrun := hM.look (t := 110) (e := 3) Try.underlying110 (zero3 _) false ((pcl o : Nat) : Int) (by omega) (by omega)
  rw [numM_get D f (pcl o) hz] at hrun
  simp only [Bool.false_eq_true, if_false] at hrun
  have e5 : IntKind.i64.wrap ((pcl o : Nat) : Int) = ((pcl o : Nat) : Int) := IntWalk.i64_in _ (by omega)
  obtain ⟨x1, x2, x3⟩ := hb.f1
  have HM := Lib.hid hM
  have hp1 := numM_push D f (pcl o) (-1)
  have hpe : f (pcl o) + -1 = f (pcl o) - 1 := by omega
  rw [hpe] at hp1
  have HP := Lib.hid hp1
  obtain ⟨b1, b2⟩ := hbd
  clear hM hk hz hb hp1 hpe
  go_enter Try.func110, Try.ntmps110
  go_wp2_with (at_mapUpdate; refine wpList_store rfl _ _ _ 110 3 rfl Try.underlying110 HM.out rfl ((pcl o : Nat) : Int) rfl (.int .i64 (f (pcl o) - 1)) rfl (by omega) (by omega) ?_; intro w5 hm5 hgr5; rw [HP.out] at hm5; have HM5 := Lib.hid hm5; have HG5 := Lib.hid hgr5; clear hm5 hgr5)
  go_end0
  exact ⟨rfl, HM5.out, HG5.out⟩
end

/-- Where taking away has got to. -/
structure SubS (A : List Int) (w0 : World) (F Bx M : Nat) (L : List Int) (w : World) : Prop where
  blk : Blk w Bx 110 #[.map (some M)]
  map_ : ∃ n D, MapI w M n (numM D (subF A L)) ∧ ∀ q, q ∉ D → subF A L q = 0
  below : Below F w0 w
  lo : F ≤ M ∧ F ≤ Bx ∧ Bx ≠ M ∧ F ≤ w.heap.size
theorem SubS.turn {A : List Int} {w0 w w' : World} {F Bx M : Nat} {L : List Int} (h : SubS A w0 F Bx M L w) (hb : Below w.heap.size w w') : SubS A w0 F Bx M L w' := by
  obtain ⟨n, D, hm, hz⟩ := h.map_
  exact ⟨h.blk.below hb h.blk.lt, ⟨n, D, hm.below hb hm.lt, hz⟩, h.below.trans (hb.mono h.lo.2.2.2), h.lo.1, h.lo.2.1, h.lo.2.2.1, Nat.le_trans h.lo.2.2.2 hb.size⟩
theorem subF_bd (A L : List Int) (p : Nat) : -(L.length : Int) ≤ subF A L p ∧ subF A L p ≤ A.length := by
  have h1 := cntF_bd A p
  have h2 := cntF_bd L p
  unfold subF; omega
/-- The closure that takes away, as a value. -/
abbrev subV (Bx : Nat) : Value := .func (.func 110) #[] #[.pointer (some ⟨Bx, 0, none⟩)]

section
variable (ws A : List Int) (w0 w : World) (F Bx M Bf : Nat) (L : List Int) (o : Int) (hS : SubS A w0 F Bx M L w) (hBf : Blk w Bf 126 #[subV Bx]) (hL : L.length ≤ 100000000) (hA : A.length ≤ 100000000) (ho : fitsB ws o = true)
include hS hBf hL hA ho
set_option maxRecDepth 100000 in
theorem tellm_any : Calls Try.prog 151 #[.int .i64 o, .pointer (some ⟨Bf, 0, none⟩)] w (ToldEnd (SubS A w0 F Bx M) M (L ++ [o]) w) := by
  obtain ⟨x1, x2⟩ := fits_bd ho
  obtain ⟨n, D, hm, hz⟩ := hS.map_
  obtain ⟨y1, y2, y3⟩ := hBf.f1
  have HS := Lib.hid hS
  by_cases hk : kd o = 3
  · have hkb : (kd o == 3) = true := by simpa using hk
    have hbd := subF_bd A L (pcl o)
    have hcall := minus1_any Bx M n D (subF A L) o w hS.blk hm (hz (pcl o)) (by omega) hk
    have HC := Lib.hid hcall
    have HE := Lib.hid (subF_thing (A := A) (L := L) hk)
    have HZ := Lib.hid (addF_zero hz (pcl o) (-1))
    clear hS hBf ho hk hm hz hcall hbd
    go_enter Try.func151, Try.ntmps151
    go_wp2_with (first
      | (go_at_call 31; refine (kind_any _ _ (by omega) (by omega)).mono ?_; rintro e w' ⟨rfl, rfl⟩)
      | (go_at_call 110; refine HC.out.mono ?_; rintro e w5 ⟨rfl, hm5, hg5⟩; have HM5 := Lib.hid hm5; have HG5 := Lib.hid hg5; clear hm5 hg5))
    go_end0
    have hlo := HS.out.lo
    refine .mk ⟨HS.out.blk.grown HG5.out (fun e => ?_), ⟨_, _, by rw [HE.out]; exact HM5.out, by rw [HE.out]; exact HZ.out⟩, HS.out.below.grown HG5.out hlo.2.2.2 (fun k e => ?_), hlo.1, hlo.2.1, hlo.2.2.1, Nat.le_trans hlo.2.2.2 HG5.out.size⟩ ((Turned.refl _ _).grown HG5.out (fun k e => .inl (by cases e; rfl)))
    · exact hlo.2.2.1 (by cases e; rfl)
    · cases e; exact hlo.1
  · have hkb : (kd o == 3) = false := by simpa using hk
    have HE := Lib.hid (subF_other (A := A) (L := L) hk)
    clear hS hBf ho hk hm hz
    go_enter Try.func151, Try.ntmps151
    go_wp2_with (go_at_call 31; refine (kind_any _ _ (by omega) (by omega)).mono ?_; rintro e w' ⟨rfl, rfl⟩)
    go_end0
    refine .mk ?_ (Turned.refl _ _)
    have h := HS.out
    obtain ⟨n, D, hm, hz⟩ := h.map_
    exact ⟨h.blk, ⟨n, D, by rw [HE.out]; exact hm, by rw [HE.out]; exact hz⟩, h.below, h.lo⟩
end
end Go.Proofs.Ytjpppdacamhhfaa
