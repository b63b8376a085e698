/- count's closures: one more, one less, of a thing. Conditions: a reference to a thing. -/
import Derived.Test.YtjpppdacamhhfaaSeen
namespace Go.Proofs.Ytjpppdacamhhfaa
open Go.RowKit
set_option linter.unusedVariables false

/-- Numbers of places, as a map. -/
def numM (D : List Nat) (f : Nat → Int) : Int → Option Value := fun k => if 0 ≤ k ∧ k.toNat ∈ D then some (.int .i64 (f k.toNat)) else none
def addF (f : Nat → Int) (p : Nat) (d : Int) : Nat → Int := fun q => if q = p then f q + d else f q
theorem numM_nil (f : Nat → Int) : numM [] f = fun _ => none := by funext k; simp [numM]
theorem numM_push (D : List Nat) (f : Nat → Int) (p : Nat) (d : Int) : put (numM D f) (p : Int) (.int .i64 (f p + d)) = numM (D ++ [p]) (addF f p d) := by
  funext k
  by_cases h : k = (p : Int)
  · subst h; rw [put_same]; simp [numM, addF]
  · rw [put_other _ _ h]
    unfold numM
    by_cases h0 : 0 ≤ k
    · have hne : k.toNat ≠ p := by omega
      have e : (k.toNat ∈ D ++ [p]) ↔ k.toNat ∈ D := by simp [hne]
      by_cases hc : k.toNat ∈ D
      · rw [if_pos ⟨h0, hc⟩, if_pos ⟨h0, e.2 hc⟩]; simp [addF, hne]
      · rw [if_neg (fun x => hc x.2), if_neg (fun x => hc (e.1 x.2))]
    · rw [if_neg (fun x => h0 x.1), if_neg (fun x => h0 x.1)]
theorem numM_get (D : List Nat) (f : Nat → Int) (p : Nat) (hz : p ∉ D → f p = 0) : (numM D f (p : Int)).getD (.int .i64 0) = .int .i64 (f p) := by
  unfold numM
  by_cases hc : p ∈ D
  · rw [if_pos ⟨by omega, by simpa using hc⟩]; simp
  · rw [if_neg (fun x => hc (by simpa using x.2)), hz hc]; rfl
theorem addF_zero {D : List Nat} {f : Nat → Int} (hz : ∀ q, q ∉ D → f q = 0) (p : Nat) (d : Int) : ∀ q, q ∉ D ++ [p] → addF f p d q = 0 := fun q hq => by
  rw [List.mem_append, List.mem_singleton] at hq
  unfold addF
  rw [if_neg (fun e => hq (.inr e))]
  exact hz q (fun e => hq (.inl e))

section
variable (Bx M n : Nat) (D : List Nat) (f : Nat → Int) (o : Int) (w : World) (hb : Blk w Bx 110 #[.map (some M)]) (hM : MapI w M n (numM D f)) (hz : pcl o ∉ D → f (pcl o) = 0)
    (hbd : -1000000000 ≤ f (pcl o) ∧ f (pcl o) ≤ 1000000000) (hk : kd o = 3)
include hb hM hz hbd hk
set_option maxRecDepth 100000 in
theorem count1_any : Calls Try.prog 150 #[.int .i64 o, .pointer (some ⟨Bx, 0, none⟩)] w fun e w' => e = .returned (.tuple #[]) ∧ MapI w' M (n + 1) (numM (D ++ [pcl o]) (addF f (pcl o) 1)) ∧ w.grownBy w' (some M) := by
  obtain ⟨k0, k1, k2⟩ := (kd_three o).1 hk
  have e2 : o / 2 = ((pcl o : Nat) : Int) := by unfold pcl; omega
  have e3 : o.tdiv 2 = ((pcl o : Nat) : Int) := by rw [Int.tdiv_eq_ediv_of_nonneg (by omega)]; exact e2
  have hpl : pcl o ≤ 5000 := by omega
  have hrun := hM.look (t := 110) (e := 3) Try.underlying110 (zero3 _) false ((pcl o : Nat) : Int) (by omega) (by omega)
  rw [numM_get D f (pcl o) hz] at hrun
  simp only [Bool.false_eq_true, if_false] at hrun
  have e5 : IntKind.i64.wrap ((pcl o : Nat) : Int) = ((pcl o : Nat) : Int) := IntWalk.i64_in _ (by omega)
  obtain ⟨x1, x2, x3⟩ := hb.f1
  have HM := Lib.hid hM
  have HP := Lib.hid (numM_push D f (pcl o) 1)
  obtain ⟨b1, b2⟩ := hbd
  clear hM hk hz hb
  go_enter Try.func150, Try.ntmps150
  go_wp2_with (at_mapUpdate; refine wpList_store rfl _ _ _ 110 3 rfl Try.underlying110 HM.out rfl ((pcl o : Nat) : Int) rfl (.int .i64 (f (pcl o) + 1)) rfl (by omega) (by omega) ?_; intro w5 hm5 hgr5; rw [HP.out] at hm5; have HM5 := Lib.hid hm5; have HG5 := Lib.hid hgr5; clear hm5 hgr5)
  go_end0
  exact ⟨rfl, HM5.out, HG5.out⟩
end
end Go.Proofs.Ytjpppdacamhhfaa
