/- tri.player: shade, view. Conditions: numbers of 64 bits. -/
import Derived.Test.YtjpppdacamhhfaaTrSpec2
import Derived.Test.YtjpppdacamhhfaaMover
import Derived.Test.YtjpppdacamhhfaaHeap1
import Derived.Test.YtjpppdacamhhfaaRoots
import Derived.Test.YtjpppdacamhhfaaSeen
namespace Go.Proofs.Ytjpppdacamhhfaa
open Go.RowKit
set_option linter.unusedVariables false

/-- Block M is a map that tells colours; what it does not know is white. -/
def ColAt (w : World) (M : Nat) (col : Nat → Int) : Prop := ∃ n f, MapI w M n f ∧ ∀ p : Nat, (f p = none ∧ col p = 0) ∨ f p = some (.int .i64 (col p))
theorem ColAt.lt {w : World} {M : Nat} {col : Nat → Int} (h : ColAt w M col) : M < w.heap.size := by obtain ⟨n, f, h, -⟩ := h; exact h.lt
theorem ColAt.same {w w' : World} {M : Nat} {col : Nat → Int} (h : ColAt w M col) (he : w'.heap[M]? = w.heap[M]?) : ColAt w' M col := by
  obtain ⟨n, f, h, h2⟩ := h; exact ⟨n, f, h.same he, h2⟩
theorem ColAt.turn {w w' : World} {S : Nat → Prop} {M : Nat} {col : Nat → Int} (h : ColAt w M col) (ht : Turned w w' S) (hS : ¬ S M) : ColAt w' M col := h.same (ht.block M h.lt hS)
theorem ColAt.drewN {w : World} {M : Nat} {col : Nat → Int} (h : ColAt w M col) (n : Nat) : ColAt (w.drewN n) M col := h
theorem ColAt.get {w : World} {M : Nat} {col : Nat → Int} (h : ColAt w M col) (p : Nat) (hp : p ≤ 100000) : (Instr.lookup 110 (.map (some M)) (.int .i64 (p : Int)) false).run Try.prog w = .ok (.int .i64 (col p)) w := by
  obtain ⟨n, f, hm, hf⟩ := h
  have hrun := hm.look (t := 110) (e := 3) Try.underlying110 (zero3 w) false (p : Int) (by omega) (by omega)
  rcases hf p with ⟨e1, e2⟩ | e1
  · rw [e1] at hrun; rw [e2]; simpa using hrun
  · rw [e1] at hrun; simpa using hrun
theorem ColAt.put {w : World} {M : Nat} {col : Nat → Int} {n p : Nat} {c : Int} {f : Int → Option Value} (hf : ∀ p : Nat, (f p = none ∧ col p = 0) ∨ f p = some (.int .i64 (col p))) (h : MapI w M n (put f (p : Int) (.int .i64 c))) : ColAt w M (upd col p c) := by
  refine ⟨n, _, h, fun q => ?_⟩
  by_cases e : q = p
  · subst e; right; rw [put_same, upd_same]
  · rw [put_other f _ (by omega), upd_ne _ _ e]; exact hf q
theorem th_range {o : Int} (h : kd o = 3) : 2 ≤ pcl o ∧ pcl o ≤ 1999 ∧ o / 2 = (pcl o : Int) ∧ o.tdiv 2 = (pcl o : Int) := by
  obtain ⟨q1, q2, q3⟩ := (kd_three o).1 h
  have : o.tdiv 2 = o / 2 := Int.tdiv_eq_ediv_of_nonneg (by omega)
  unfold pcl
  omega

/-- Only block M has been turned, which tells colours. -/
def ShadeEnd (M : Nat) (col : Nat → Int) (w : World) (e : Ending) (w' : World) : Prop := e = .returned (.tuple #[]) ∧ ColAt w' M col ∧ Turned w w' (fun k => k = M)

set_option maxRecDepth 100000 in
set_option maxHeartbeats 4000000 in
theorem shade_any (P M : Nat) (x y : Value) (col : Nat → Int) (o : Int) (w : World) (hP : Blk w P 171 #[x, y, .map (some M)]) (hM : ColAt w M col) (h1 : -9223372036854775808 ≤ o) (h2 : o ≤ 9223372036854775807) :
    Calls Try.prog 139 #[.pointer (some ⟨P, 0, none⟩), .int .i64 o] w (ShadeEnd M (shadeC col o) w) := by
  obtain ⟨x1, x2, x3, x4, x5, x6, x7⟩ := hP.f3
  by_cases hk : kd o = 3
  · obtain ⟨r1, r2, r3, r4⟩ := th_range hk
    have hkb : (kd o == 3) = true := by rw [hk]; rfl
    have hwp : IntKind.i64.wrap ((pcl o : Nat) : Int) = ((pcl o : Nat) : Int) := IntWalk.i64_in _ (by omega)
    have hrun := hM.get (pcl o) (by omega)
    obtain ⟨n, f, hm, hf⟩ := hM
    have HM := Lib.hid hm; have HF := Lib.hid hf
    by_cases hc : col (pcl o) = 0
    · have HE : Hid (shadeC col o = upd col (pcl o) 1) := by show _ = _; unfold shadeC; rw [if_pos ⟨hk, hc⟩]
      rw [hc] at hrun
      clear hk hP hm hf hc
      go_enter Try.func139, Try.ntmps139
      go_wp2_with (first
        | (go_at_call 31; refine (kind_any _ _ (by omega) (by omega)).mono ?_; rintro e w' ⟨rfl, rfl⟩)
        | (at_mapUpdate; refine wpList_store rfl _ _ _ 110 3 rfl Try.underlying110 HM.out rfl ((pcl o : Nat) : Int) rfl (.int .i64 1) rfl (by omega) (by omega) ?_; intro w5 hm5 hgr5; have HM5 := Lib.hid hm5; have HG5 := Lib.hid hgr5; clear hm5 hgr5))
      go_end0
      exact ⟨rfl, by rw [HE.out]; exact ColAt.put HF.out HM5.out, (Turned.refl _ _).grown HG5.out (fun k e => by cases e; exact .inl rfl)⟩
    · have HE : Hid (shadeC col o = col) := by show _ = _; unfold shadeC; rw [if_neg (fun h => hc h.2)]
      have hcb : (col (pcl o) == 0) = false := by simpa using hc
      clear hk hP hm hf hc
      generalize col (pcl o) = cc at *
      go_enter Try.func139, Try.ntmps139
      go_wp2_with (go_at_call 31; refine (kind_any _ _ (by omega) (by omega)).mono ?_; rintro e w' ⟨rfl, rfl⟩)
      go_end0
      exact ⟨rfl, by rw [HE.out]; exact ⟨n, f, HM.out, HF.out⟩, Turned.refl _ _⟩
  · have hkb : (kd o == 3) = false := by simpa using hk
    have HE : Hid (shadeC col o = col) := by show _ = _; unfold shadeC; rw [if_neg (fun h => hk h.1)]
    have HM := Lib.hid hM
    clear hk hP hM
    go_enter Try.func139, Try.ntmps139
    go_wp2_with (go_at_call 31; refine (kind_any _ _ (by omega) (by omega)).mono ?_; rintro e w' ⟨rfl, rfl⟩)
    go_end0
    exact ⟨rfl, by rw [HE.out]; exact HM.out, Turned.refl _ _⟩

/-- A view of the heap as it is. -/
def ViewEnd (ws : List Int) (w : World) (e : Ending) (w' : World) : Prop := ∃ g, e = .returned (.pointer (some ⟨g, 0, none⟩)) ∧ ViewAt w' g ws ∧ Below w.heap.size w w'

set_option maxRecDepth 100000 in
set_option maxHeartbeats 4000000 in
theorem view_any (ws : List Int) (P : Nat) (A : Option Addr) (c : Nat) (y z : Value) (w : World) (hP : Blk w P 171 #[.slice A ws.length c, y, z]) (hA : Ints w A ws) (hcap : ws.length ≤ c) (hok : OkH ws) (hw : I64 ws) :
    Calls Try.prog 141 #[.pointer (some ⟨P, 0, none⟩)] w (ViewEnd ws w) := by
  obtain ⟨x1, x2, x3, x4, x5, x6, x7⟩ := hP.f3
  have hl : ws.length ≤ 9223372036854775807 := by have := hok.most; omega
  have h0 : (checkF ws).1 = 0 := by have := okB_iff.2 hok; unfold okB at this; simpa using this
  have HC := Lib.hid ((see_any ws A c w hA hcap hw hl))
  have H0 := Lib.hid h0
  clear hP hA hok hw h0
  go_enter Try.func141, Try.ntmps141
  go_wp2_with fail
  refine HC.out.mono ?_
  rintro e w2 ⟨hb2, h⟩
  rcases h with ⟨h0, rfl⟩ | ⟨h0, g, rfl, hv⟩
  · exact absurd H0.out h0
  have HB := Lib.hid (hb2.alloc hb2.size (.cells #[.int .i64 0, .int .i64 0] 36))
  have HV := Lib.hid (hv.below ((Below.refl w2.heap.size w2).alloc (Nat.le_refl _) (.cells #[.int .i64 0, .int .i64 0] 36)))
  clear hb2 hv h0
  unfold fltV
  go_wp2_with fail
  go_ret
  exact ⟨g, rfl, HV.out, HB.out⟩

set_option maxRecDepth 100000 in
set_option maxHeartbeats 4000000 in
theorem here_any (ws rs : List Int) (P g : Nat) (B : Option Addr) (d : Nat) (x z : Value) (o : Int) (w : World) (hP : Blk w P 171 #[x, .slice B rs.length d, z]) (hv : ViewAt w g ws) (hok : OkH ws) (hw : I64 ws) (hB : Ints w B rs) (hrl : rs.length ≤ 1000000) (hfit : ∀ o ∈ rs, fitsB ws o = true)
    (h1 : -9223372036854775808 ≤ o) (h2 : o ≤ 9223372036854775807) :
    Calls Try.prog 161 #[.pointer (some ⟨P, 0, none⟩), .pointer (some ⟨g, 0, none⟩), .int .i64 o] w fun e w' => e = .returned (.bool (hereB ws rs o)) ∧ Below w.heap.size w w' := by
  obtain ⟨x1, x2, x3, x4, x5, x6, x7⟩ := hP.f3
  have HFV := Lib.hid (fitsv_any hv o h1 h2)
  have HSE := Lib.hid (seen_any ws rs g B d w hv hok hw hB hrl hfit)
  have HRC := Lib.hid (rchB_iff hok hfit (pcl o))
  clear hP hv hok hw hB hfit
  cases hf : fitsB ws o
  · have HE : Hid (hereB ws rs o = false) := by show _ = _; unfold hereB; rw [hf]; rfl
    rw [hf] at HFV
    clear hf
    go_enter Try.func161, Try.ntmps161
    go_wp2_with (go_at_call 149; refine HFV.out.mono ?_; rintro e w' ⟨rfl, rfl⟩)
    go_ret
    exact ⟨ret_bool HE.out.symm, Below.refl _ _⟩
  · rw [hf] at HFV
    by_cases hk : kd o = 3
    · obtain ⟨r1, r2, r3, r4⟩ := th_range hk
      have HE : Hid (hereB ws rs o = rchB ws rs (pcl o)) := by show _ = _; unfold hereB; rw [hf, hk]; rfl
      have hkb : (kd o != 3) = false := by rw [hk]; rfl
      have hwp : IntKind.i64.wrap ((pcl o : Nat) : Int) = ((pcl o : Nat) : Int) := IntWalk.i64_in _ (by omega)
      clear hf hk
      go_enter Try.func161, Try.ntmps161
      go_wp2_with (first
        | (go_at_call 149; refine HFV.out.mono ?_; rintro e w' ⟨rfl, rfl⟩)
        | (go_at_call 31; refine (kind_any _ _ (by omega) (by omega)).mono ?_; rintro e w' ⟨rfl, rfl⟩)
        | (go_at_call 114; refine HSE.out.mono ?_; rintro e w3 ⟨M3, n3, S3, -, hS3, rfl, hm3, -, hb3⟩; have HS3 := Lib.hid hS3; have HM3 := Lib.hid hm3; have HB3 := Lib.hid hb3; clear hS3 hm3 hb3)
        | (go_at_call 115; refine (has_any M3 n3 S3 (pcl o) _ HM3.out (by omega)).mono ?_; rintro e w4 ⟨rfl, hb4⟩; have HB4 := Lib.hid hb4; clear hb4))
      go_ret
      refine ⟨ret_bool ?_, HB3.out.trans (HB4.out.mono HB3.out.size)⟩
      rw [HE.out, Bool.eq_iff_iff, HRC.out, decide_eq_true_iff, HS3.out]
    · have hkb : (kd o != 3) = true := by simpa using hk
      have HE : Hid (hereB ws rs o = true) := by show _ = _; unfold hereB; rw [hf, hkb]; rfl
      clear hf hk
      go_enter Try.func161, Try.ntmps161
      go_wp2_with (first
        | (go_at_call 149; refine HFV.out.mono ?_; rintro e w' ⟨rfl, rfl⟩)
        | (go_at_call 31; refine (kind_any _ _ (by omega) (by omega)).mono ?_; rintro e w' ⟨rfl, rfl⟩))
      go_ret
      exact ⟨ret_bool HE.out.symm, Below.refl _ _⟩
end Go.Proofs.Ytjpppdacamhhfaa
