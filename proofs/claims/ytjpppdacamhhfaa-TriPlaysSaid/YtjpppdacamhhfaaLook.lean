/- heap.Look and the document's Look tell a thing. Conditions: numbers of 64 bits. -/
import Derived.Test.YtjpppdacamhhfaaNew
import Derived.Test.YtjpppdacamhhfaaRef
namespace Go.Proofs.Ytjpppdacamhhfaa
open Go.RowKit
set_option linter.unusedVariables false

theorem set4_cell {w : World} {R g i : Nat} {a b c d v : Value} (h : w.cell? ⟨g, i, none⟩ = some v) (hne : g ≠ R) :
    ((((w.setCell ⟨R, 0, none⟩ a).setCell ⟨R, 1, none⟩ b).setCell ⟨R, 2, none⟩ c).setCell ⟨R, 3, none⟩ d).cell? ⟨g, i, none⟩ = some v := by
  rw [← h]
  exact World.cell?_of_block (w := w) (a := ⟨g, i, none⟩) ((Below.heap_setCell _ _ _ _ hne).trans ((Below.heap_setCell _ _ _ _ hne).trans ((Below.heap_setCell _ _ _ _ hne).trans (Below.heap_setCell _ _ _ _ hne))))

theorem Row.ne_blk {w : World} {b o g : Nat} {xs : List Int} {t : TypeId} {cs : Array Value} (h : Row w b o xs) (hb : Blk w g t cs) (hl : cs.size < xs.length) : b ≠ g := by
  rintro rfl
  have h1 := h (xs.length - 1) (by omega)
  rw [hb.cell] at h1
  have h2 := (Array.getElem?_eq_some_iff.1 h1).1
  omega

/-- A thing as a value. -/
def thingV (c h f : Int) (s : Value) : Value := .agg #[.int .i64 c, .int .i64 h, .int .i64 f, s]
/-- Where a reference leads. -/
def plc (x : Int) : Nat := (x / 2).toNat
theorem isTh_plc {ws : List Int} {x : Int} (h : isTh ws x = true) : plc x ∈ places ws ∧ x = 2 * (plc x : Int) := by
  unfold isTh at h
  simp only [Bool.and_eq_true, beq_iff_eq] at h
  have hk := (kd_three x).1 h.1
  refine ⟨by simpa [isPl, plc] using h.2, ?_⟩
  unfold plc; omega
theorem isTh_fit {ws : List Int} {x : Int} (h : isTh ws x = true) : badB ws (plc x) = false ∧ 2 ≤ plc x ∧ plc x < ws.length := by
  have := places_mem (isTh_plc h).1
  exact ⟨this.2.2, this.1, this.2.1⟩

/-- How Look ends where the heap may be. -/
def LookR (ws : List Int) (x : Int) (w : World) (e : Ending) (w' : World) : Prop :=
  Below w.heap.size w w' ∧ ((isTh ws x = false ∧ e = .returned (.tuple #[thingV 0 0 0 (.slice none 0 0), .int .i64 3])) ∨
    (isTh ws x = true ∧ ∃ A c, e = .returned (.tuple #[thingV (nth ws (plc x)) (nth ws (plc x + 1)) (formOf ws (plc x)) (.slice A (slotsL ws (plc x)).length c), .int .i64 0]) ∧ Own w' w.heap.size (.slice A (slotsL ws (plc x)).length c) (slotsL ws (plc x))))
def LookOut (ws : List Int) (x : Int) (w : World) (e : Ending) (w' : World) : Prop :=
  (okB ws = false ∧ Below w.heap.size w w' ∧ e = .returned (.tuple #[thingV 0 0 0 (.slice none 0 0), .int .i64 7])) ∨ (okB ws = true ∧ LookR ws x w e w')

section
variable (ws : List Int) (A : Option Addr) (c : Nat) (x : Int) (w : World) (hA : Ints w A ws) (hcap : ws.length ≤ c) (hw : I64 ws) (hl : ws.length ≤ 9223372036854775807)
    (c1 : -9223372036854775808 ≤ x) (c2 : x ≤ 9223372036854775807)
include hA hcap hw hl c1 c2

set_option maxRecDepth 100000 in
set_option maxHeartbeats 4000000 in
theorem lookt_any : Calls Try.prog 49 #[.agg #[.slice A ws.length c], .int .i64 x] w (LookOut ws x w) := by
  have HA := Lib.hid ((hA.alloc (.cells #[.slice A ws.length c] 33)).alloc (.cells #[.int .i64 0, .int .i64 0, .int .i64 0, .slice none 0 0] 48)); clear hA
  have HW := Lib.hid hw; clear hw
  have hb0 : Blk ((w.alloc (.cells #[.slice A ws.length c] 33)).alloc (.cells #[.int .i64 0, .int .i64 0, .int .i64 0, .slice none 0 0] 48)) w.heap.size 33 #[.slice A ws.length c] := (Blk.new _ _ _).alloc _
  have hr0 : Blk ((w.alloc (.cells #[.slice A ws.length c] 33)).alloc (.cells #[.int .i64 0, .int .i64 0, .int .i64 0, .slice none 0 0] 48)) (w.heap.size + 1) 48 #[.int .i64 0, .int .i64 0, .int .i64 0, .slice none 0 0] := by
    have := Blk.new (w.alloc (.cells #[.slice A ws.length c] 33)) 48 #[.int .i64 0, .int .i64 0, .int .i64 0, .slice none 0 0]
    simpa using this
  have HB0 := Lib.hid hb0; have HR0 := Lib.hid hr0; clear hb0 hr0
  have HL0 : Hid (Below w.heap.size w ((w.alloc (.cells #[.slice A ws.length c] 33)).alloc (.cells #[.int .i64 0, .int .i64 0, .int .i64 0, .slice none 0 0] 48))) := ((Below.refl _ _).alloc (Nat.le_refl _) _).alloc (by simp) _
  go_enter Try.func49, Try.ntmps49
  go_wp2_with fail
  refine (look_any ws A c _ HA.out hcap HW.out (by omega)).mono ?_
  rintro e w1 ⟨hb1, h⟩
  have HL1 := Lib.hid (HL0.out.trans (hb1.mono (by simp; omega)))
  have HR1 := Lib.hid (HR0.out.below hb1 HR0.out.lt)
  clear hb1
  obtain ⟨y0, y1, y2, y3, y4, y5, y6, y7, y8⟩ := HR1.out.f4
  rcases h with ⟨h0, rfl⟩ | ⟨h0, g, rfl, hv⟩
  · have HE := Lib.hid h0; clear h0
    go_wp2
    refine bodyPost_ret (v := .tuple #[thingV 0 0 0 (.slice none 0 0), .int .i64 7]) (by simp [results, Try.results49, go_sem, thingV, y0, y1, y2, y3]) rfl (.inl ⟨HE.out, ?_, rfl⟩)
    repeat (first | exact HL1.out | refine Below.setCell ?_ (by simp) _)
  have HE := Lib.hid h0
  have HOK := Lib.hid (okB_iff.1 h0)
  have HV := Lib.hid hv
  clear h0 hv
  cases hth : isTh ws x
  · go_wp2_with (go_at_call 95; refine (isv_any HV.out _ (by omega) (by omega)).mono ?_; rintro e w' ⟨rfl, rfl⟩)
    have HT := Lib.hid hth
    refine bodyPost_ret (v := .tuple #[thingV 0 0 0 (.slice none 0 0), .int .i64 3]) (by simp [results, Try.results49, go_sem, thingV, y0, y1, y2, y3]) rfl (.inr ⟨HE.out, ?_, .inl ⟨HT.out, rfl⟩⟩)
    repeat (first | exact HL1.out | refine Below.setCell ?_ (by simp) _)
  · obtain ⟨hfit, hp2, hpl⟩ := isTh_fit hth
    obtain ⟨hpm, hx⟩ := isTh_plc hth
    have HFIT := Lib.hid hfit
    obtain ⟨n1, n2, n3, n4, n5⟩ := not_bad hfit
    have HT := Lib.hid hth
    have hq2 : ws.length ≤ 2000 := HOK.out.most
    generalize plc x = p at *
    subst hx
    clear hfit hpm
    obtain ⟨b, o, c', M, A', oc, v0, v1, v2, hg, hb, hcc, hrow, hord⟩ := HV.out.cells
    have e0 := hrow p (by omega)
    have e1 := hrow (p + 1) (by omega)
    have hbR : b ≠ w.heap.size + 1 := hrow.ne_blk HR1.out (by simp; omega)
    have hgR : g ≠ w.heap.size + 1 := fun e => by rw [e, y0] at v0; cases v0
    clear hrow hord v1 v2
    have d0 : 0 ≤ (p : Int) := by omega
    have d1 : (p : Int) < ws.length := by omega
    have d2 : IntKind.i64.wrap ((p : Int) + 1) = (p : Int) + 1 := IntWalk.i64_in _ (by omega)
    have d3 : 0 ≤ (p : Int) + 1 := by omega
    have d4 : (p : Int) + 1 < ws.length := by omega
    have d5 : ((p : Int) + 1).toNat = p + 1 := by omega
    have hL5 : ws.length ≤ 100000 := by omega
    have hP5 : p + 2 < ws.length := by omega
    have hS9 : (slotsL ws p).length ≤ 1000000000 := by rw [slotsL_len HFIT.out]; unfold slotsN; omega
    have hSL := Lib.hid (slotsL_len HFIT.out)
    have hB1 := (Below.refl w1.heap.size w1).drew
    have vd0 : w1.drew.cell? ⟨g, 0, none⟩ = some (.slice (some ⟨b, o, none⟩) ws.length c') := v0
    have vd1 : w1.drew.cell? ⟨b, o + p, none⟩ = some (.int .i64 (nth ws p)) := e0
    have vd2 : w1.drew.cell? ⟨b, o + (p + 1), none⟩ = some (.int .i64 (nth ws (p + 1))) := e1
    have vn0 : ∀ m, (w1.drewN m).cell? ⟨g, 0, none⟩ = some (.slice (some ⟨b, o, none⟩) ws.length c') := fun _ => v0
    have vn1 : ∀ m, (w1.drewN m).cell? ⟨b, o + p, none⟩ = some (.int .i64 (nth ws p)) := fun _ => e0
    have vn2 : ∀ m, (w1.drewN m).cell? ⟨b, o + (p + 1), none⟩ = some (.int .i64 (nth ws (p + 1))) := fun _ => e1
    go_wp2_with (go_at_call 95; refine (isv_any HV.out _ (by omega) (by omega)).mono ?_; rintro e w' ⟨rfl, rfl⟩)
    go_region_held3 (fun w' => w'.cell? ⟨g, 0, none⟩ = some (.slice (some ⟨b, o, none⟩) ws.length c') ∧ w'.cell? ⟨b, o + p, none⟩ = some (.int .i64 (nth ws p)) ∧ w'.cell? ⟨b, o + (p + 1), none⟩ = some (.int .i64 (nth ws (p + 1))))
      (first | (with_reducible exact ⟨vd0, vd1, vd2⟩) | (with_reducible exact ⟨vn0 _, vn1 _, vn2 _⟩) | (with_reducible exact ⟨vb0, vb1, vb2⟩) | (with_reducible exact ⟨set4_cell vb0 hgR, set4_cell vb1 hbR, set4_cell vb2 hbR⟩))
      (first
        | (go_at_call 97; refine (formv_any (HV.out.below hB1) HW.out hL5 p hP5).mono ?_; rintro e w' ⟨rfl, rfl⟩)
        | (go_at_call 98; refine (slotsv_any (HV.out.below hB1) HW.out hL5 p HFIT.out).mono ?_; rintro e w' ⟨A2, c2, m, rfl, hA2, rfl, hc2⟩; have hA3 : Ints w1 A2 (slotsL ws p) := hA2)
        | (go_at_call 96; rw [← hSL.out]; refine (clone_any (slotsL ws p) _ _ _ (Ints.below hA3 (belowN _ _ _)) hS9).mono ?_; rintro e w2 ⟨hb2, A3, c3, rfl, hown3⟩; have hBn : Below w1.heap.size w1 w2 := (belowN _ _ _).trans hb2; have vb0 := (hBn.cell (p := ⟨g, 0, none⟩) hg).trans v0; have vb1 := (hBn.cell (p := ⟨b, o + p, none⟩) hb).trans e0; have vb2 := (hBn.cell (p := ⟨b, o + (p + 1), none⟩) hb).trans e1; obtain ⟨z0, z1, z2, z3, z4, z5, z6, z7, z8⟩ := (HR1.out.below hBn HR1.out.lt).f4))
    have hO : Own w2 w.heap.size (.slice A3 (slotsL ws p).length c3) (slotsL ws p) := hown3.mono HL1.out.size
    have hne : ∀ k, (Value.slice A3 (slotsL ws p).length c3).ownBlock = some k → w1.heap.size ≤ k := fun k hk => (hown3.lt k hk).1
    have hOW := Lib.hid hO
    clear vd0 vd1 vd2 vn0 vn1 vn2 vb0 vb1 vb2 hO d0 d1 d2 d3 d4 d5 e0 e1 v0
    go_wp2
    refine bodyPost_ret (v := .tuple #[thingV (nth ws p) (nth ws (p + 1)) (formOf ws p) (.slice A3 (slotsL ws p).length c3), .int .i64 0]) (by simp [results, Try.results49, go_sem, thingV, z0, z1, z2, z3]) rfl (.inr ⟨HE.out, ?_, .inr ⟨HT.out, A3, c3, ?_, ?_⟩⟩)
    · repeat (first | exact HL1.out.trans (hBn.mono HL1.out.size) | refine Below.setCell ?_ (by simp) _)
    · rw [show plc (2 * (p : Int)) = p from by unfold plc; omega]
    · rw [show plc (2 * (p : Int)) = p from by unfold plc; omega]
      repeat (first | exact hOW.out | refine Own.setCell ?_ _ (fun e => by have := hne _ e; simp at this; omega) _)
end
end Go.Proofs.Ytjpppdacamhhfaa
