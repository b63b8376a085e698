/- count.Trial's second closure holds a thing and all that is reached from it. Conditions: a view of a heap that may be, a reference of a thing. -/
import Derived.Test.YtjpppdacamhhfaaMinus
namespace Go.Proofs.Ytjpppdacamhhfaa
open Go.RowKit
set_option linter.unusedVariables false

/-- The closure that holds, as a value. -/
abbrev holdV (Bt Bv Bh : Nat) : Value := .func (.func 111) #[] #[.pointer (some ⟨Bt, 0, none⟩), .pointer (some ⟨Bv, 0, none⟩), .pointer (some ⟨Bh, 0, none⟩)]
/-- Who is held, in memory. -/
structure HoldS (w0 : World) (F Bt Bv Bh M g : Nat) (H : List Nat) (w : World) : Prop where
  bt : Blk w Bt 127 #[.map (some M)]
  bv : Blk w Bv 104 #[.pointer (some ⟨g, 0, none⟩)]
  bh : Blk w Bh 126 #[holdV Bt Bv Bh]
  map_ : ∃ n, MapI w M n (seenM H)
  below : Below F w0 w
  lo : F ≤ M ∧ F ≤ w.heap.size ∧ Bt ≠ M ∧ Bv ≠ M ∧ Bh ≠ M
section
variable {w0 w w' : World} {F Bt Bv Bh M g : Nat} {H : List Nat}
theorem HoldS.turn (h : HoldS w0 F Bt Bv Bh M g H w) (hb : Below w.heap.size w w') : HoldS w0 F Bt Bv Bh M g H w' := by
  obtain ⟨n, hm⟩ := h.map_
  exact ⟨h.bt.below hb h.bt.lt, h.bv.below hb h.bv.lt, h.bh.below hb h.bh.lt, ⟨n, hm.below hb hm.lt⟩, h.below.trans (hb.mono h.lo.2.1), h.lo.1, Nat.le_trans h.lo.2.1 hb.size, h.lo.2.2⟩
theorem HoldS.put {n : Nat} {p : Nat} (h : HoldS w0 F Bt Bv Bh M g H w) (hg : w.grownBy w' (some M)) (hm : MapI w' M n (seenM (H ++ [p]))) : HoldS w0 F Bt Bv Bh M g (H ++ [p]) w' :=
  ⟨h.bt.grown hg (fun e => h.lo.2.2.1 (by cases e; rfl)), h.bv.grown hg (fun e => h.lo.2.2.2.1 (by cases e; rfl)), h.bh.grown hg (fun e => h.lo.2.2.2.2 (by cases e; rfl)), ⟨n, hm⟩,
    h.below.grown hg h.lo.2.1 (fun k e => by cases e; exact h.lo.1), h.lo.1, Nat.le_trans h.lo.2.1 hg.size, h.lo.2.2⟩
end
/-- What a call of it does. -/
def HoldEnd (ws rs : List Int) (w0 : World) (F Bt Bv Bh M g : Nat) (H : List Nat) (o : Int) (w : World) (e : Ending) (w' : World) : Prop :=
  e = .returned (.tuple #[]) ∧ (∃ H', HoldS w0 F Bt Bv Bh M g H' w' ∧ HeldI ws rs H H' [o]) ∧ Turned w w' (fun k => k = M)
def HoldP (ws rs : List Int) (w0 : World) (F Bt Bv Bh M g : Nat) (m : Nat) : Prop :=
  ∀ (H : List Nat) (o : Int) (w : World), (places ws).length - H.length ≤ m → HoldS w0 F Bt Bv Bh M g H w → H.Nodup → (∀ p ∈ H, Rch ws rs p) → kd o = 3 → Rch ws rs (pcl o) →
    Calls Try.prog 111 #[.int .i64 o, .pointer (some ⟨Bt, 0, none⟩), .pointer (some ⟨Bv, 0, none⟩), .pointer (some ⟨Bh, 0, none⟩)] w (HoldEnd ws rs w0 F Bt Bv Bh M g H o w)

/-- While it goes on. -/
def HoldG (ws rs : List Int) (w0 : World) (F Bt Bv Bh M g : Nat) (H0 : List Nat) (L : List Int) (w : World) : Prop := ∃ H, HoldS w0 F Bt Bv Bh M g H w ∧ HeldI ws rs H0 H L

section
variable (ws rs : List Int) (w0 w : World) (F Bt Bv Bh M g Bf : Nat) (H0 : List Nat) (L : List Int) (o : Int) (m : Nat) (hP : HoldP ws rs w0 F Bt Bv Bh M g m) (hn : H0.Nodup) (hm : (places ws).length - H0.length ≤ m)
    (hS : HoldG ws rs w0 F Bt Bv Bh M g H0 L w) (hBf : Blk w Bf 126 #[holdV Bt Bv Bh]) (hr : kd o = 3 → Rch ws rs (pcl o)) (ho : fitsB ws o = true)
include hP hn hm hS hBf hr ho
set_option maxRecDepth 100000 in
theorem tellh_any : Calls Try.prog 151 #[.int .i64 o, .pointer (some ⟨Bf, 0, none⟩)] w (ToldEnd (HoldG ws rs w0 F Bt Bv Bh M g H0) M (L ++ [o]) w) := by
  obtain ⟨x1, x2⟩ := fits_bd ho
  obtain ⟨y1, y2, y3⟩ := hBf.f1
  obtain ⟨H, hs, hi⟩ := hS
  by_cases hk : kd o = 3
  · have hkb : (kd o == 3) = true := by simpa using hk
    have hl := hi.len hn
    have HC := Lib.hid (hP H o w (by omega) hs hi.nodup hi.rch hk (hr hk))
    have HI := Lib.hid hi
    clear hP hBf ho hk hr hs hi
    go_enter Try.func151, Try.ntmps151
    go_wp2_with (first
      | (go_at_call 31; refine (kind_any _ _ (by omega) (by omega)).mono ?_; rintro e w' ⟨rfl, rfl⟩)
      | (go_at_call 111; refine HC.out.mono ?_; rintro e w5 ⟨rfl, hm5, hg5⟩; have HM5 := Lib.hid hm5; have HG5 := Lib.hid hg5; clear hm5 hg5))
    go_end0
    obtain ⟨H', h1, h2⟩ := HM5.out
    exact .mk ⟨H', h1, HI.out.step h2⟩ HG5.out
  · have hkb : (kd o == 3) = false := by simpa using hk
    have HH : Hid (HoldG ws rs w0 F Bt Bv Bh M g H0 (L ++ [o]) w) := ⟨H, hs, hi.pass (fun e => absurd e hk)⟩
    clear hP hBf ho hk hr hs hi
    go_enter Try.func151, Try.ntmps151
    go_wp2_with (go_at_call 31; refine (kind_any _ _ (by omega) (by omega)).mono ?_; rintro e w' ⟨rfl, rfl⟩)
    go_end0
    exact .mk HH.out (Turned.refl _ _)
end

set_option maxRecDepth 100000 in
set_option maxHeartbeats 4000000 in
theorem hold_any (ws rs : List Int) (g b o' c : Nat) (w0 : World) (F Bt Bv Bh M : Nat) (hok : OkH ws) (hw : I64 ws) (hfit : ∀ o ∈ rs, fitsB ws o = true)
    (hvw : ∀ W, Below F w0 W → ViewAt W g ws) (hrw : ∀ W, Below F w0 W → Row W b o' ws ∧ b < W.heap.size) (hcw : ∀ W, Below F w0 W → W.cell? ⟨g, 0, none⟩ = some (.slice (some ⟨b, o', none⟩) ws.length c)) (hcc : ws.length ≤ c) (m : Nat) :
    HoldP ws rs w0 F Bt Bv Bh M g m := by
  induction m using Nat.strongRecOn with
  | ind m ih =>
    intro H o w hm hS hnd hrH hk hro
    obtain ⟨k0, k1, k2⟩ := (kd_three o).1 hk
    have e2 : o / 2 = ((pcl o : Nat) : Int) := by unfold pcl; omega
    have e3 : o.tdiv 2 = ((pcl o : Nat) : Int) := by rw [Int.tdiv_eq_ediv_of_nonneg (by omega)]; exact e2
    have hpl := hro.pl hok hfit
    have hp5 : pcl o ≤ 5000 := by omega
    obtain ⟨n, hM⟩ := hS.map_
    have hrun := hM.look (t := 127) (e := 128) Try.underlying127 (zeroU _) true ((pcl o : Nat) : Int) (by omega) (by omega)
    rw [seenM_at, seenM_get] at hrun
    simp only [if_true] at hrun
    have e5 : IntKind.i64.wrap ((pcl o : Nat) : Int) = ((pcl o : Nat) : Int) := IntWalk.i64_in _ (by omega)
    have hz := zeroU
    obtain ⟨x1, x2, x3⟩ := hS.bt.f1
    by_cases hp : pcl o ∈ H
    · have hd : decide (pcl o ∈ H) = true := by simpa using hp
      rw [hd] at hrun
      have HEI : Hid (HeldI ws rs H H [o]) := (HeldI.start hnd hrH).pass (L := []) (fun _ => hp)
      have HS := Lib.hid hS
      clear hS hM hp hpl hro hrH hnd hd ih hk hok hw hfit hvw hrw hcw
      go_enter Try.func111, Try.ntmps111
      go_wp2_with fail
      go_end0
      exact ⟨rfl, ⟨H, HS.out.turn ((Below.refl _ _).alloc (Nat.le_refl _) _), HEI.out⟩, (Turned.refl _ _).alloc _⟩
    · have hd : decide (pcl o ∈ H) = false := by simpa using hp
      rw [hd] at hrun
      have hlen : (H ++ [pcl o]).length ≤ (places ws).length := nodup_len (HeldI.more hnd hrH hp hro).1 (fun q hq => ((HeldI.more hnd hrH hp hro).2 q hq).pl hok hfit)
      rw [List.length_append, List.length_singleton] at hlen
      obtain ⟨hn1, hr1⟩ := HeldI.more hnd hrH hp hro
      have HP := Lib.hid (ih (m - 1) (by omega))
      have hle1 : (places ws).length - (H ++ [pcl o]).length ≤ m - 1 := by rw [List.length_append, List.length_singleton]; omega
      have HLE1 := Lib.hid hle1
      have HN1 := Lib.hid hn1; have HR1 := Lib.hid hr1
      have HS := Lib.hid hS; have HPL := Lib.hid hpl; have HRO := Lib.hid hro
      have HPU := Lib.hid (seenM_push H (pcl o))
      have hM1 := hM.alloc (.cells #[] 128)
      have HM1 := Lib.hid hM1
      have HOK := Lib.hid hok; have HW := Lib.hid hw
      have HVW := Lib.hid hvw; have HRW := Lib.hid hrw; have HCW := Lib.hid hcw
      have HS1 := Lib.hid (hS.turn ((Below.refl _ _).alloc (Nat.le_refl _) (.cells #[] 128)))
      obtain ⟨u1, u2, u3⟩ := hS.bv.f1
      obtain ⟨v1, v2, v3⟩ := hS.bh.f1
      clear hS hM hp hpl hro hrH hnd hd ih hk hok hw hfit hvw hrw hcw hlen hn1 hr1 hM1 hle1 hm
      go_enter Try.func111, Try.ntmps111
      go_wp2_with (at_mapUpdate;  refine wpList_store rfl _ _ _ 127 128 rfl Try.underlying127 HM1.out rfl ((pcl o : Nat) : Int) rfl (.agg #[]) rfl (by omega) (by omega) ?_; intro w5 hm5 hgr5; rw [HPU.out] at hm5; have HS5 := Lib.hid (HS1.out.put hgr5 hm5); have HT5 := Lib.hid (((Turned.refl w (fun k => k = M)).alloc (.cells #[] 128)).grown hgr5 (fun k e => .inl (by cases e; rfl))); have HML := Lib.hid hm5.lt; clear hm5 hgr5; obtain ⟨u4, u5, u6⟩ := HS5.out.bv.f1; obtain ⟨v4, v5, v6⟩ := HS5.out.bh.f1)
      refine (given_gen ws g b o' c w0 w5 F M 111 #[.pointer (some ⟨Bt, 0, none⟩), .pointer (some ⟨Bv, 0, none⟩), .pointer (some ⟨Bh, 0, none⟩)] (HoldG ws rs w0 F Bt Bv Bh M g (H ++ [pcl o])) [] (pcl o) ⟨_, HS5.out, HeldI.start HN1.out HR1.out⟩ (by simp) HOK.out HW.out HPL.out HVW.out HRW.out HCW.out hcc HML.out
        (fun L W h => by obtain ⟨H', h1, _⟩ := h; exact h1.below) (fun L W W' h hb => by obtain ⟨H', h1, h2⟩ := h; exact ⟨H', h1.turn hb, h2⟩)
        (fun Bf L x W h hB _ hx hfx _ => tellh_any ws rs w0 W F Bt Bv Bh M g Bf (H ++ [pcl o]) L x (m - 1) HP.out HN1.out HLE1.out h hB (fun hk => .step (pcl o) x HRO.out hx hk) hfx)).mono ?_
      rintro e w6 ⟨rfl, hg6, ht6⟩
      obtain ⟨H', h1, h2⟩ := hg6
      have HF : Hid (HoldEnd ws rs w0 F Bt Bv Bh M g H o w (.returned (.tuple #[])) w6) := ⟨rfl, ⟨H', h1, HeldI.deep h2 rfl⟩, HT5.out.trans ht6 (fun k _ h => h)⟩
      clear h1 h2 ht6
      go_wp2_with fail
      go_end0
      exact HF.out
end Go.Proofs.Ytjpppdacamhhfaa
