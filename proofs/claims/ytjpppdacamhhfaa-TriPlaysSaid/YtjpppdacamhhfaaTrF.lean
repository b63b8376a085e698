/- tri.Play. Conditions: numbers of 64 bits. -/
import Derived.Test.YtjpppdacamhhfaaTrE
import Derived.Test.YtjpppdacamhhfaaMem5
import Derived.Deep.RegionLaw
namespace Go.Proofs.Ytjpppdacamhhfaa
open Go.RowKit
set_option linter.unusedVariables false

/-- The six numbers of an op. -/
def opL (op : TOp) : List Int := [op.k, op.o, op.a, op.w, op.f, op.s]
/-- A slice of ops. -/
def Ops (w : World) (C : Option Addr) (l : List TOp) : Prop := 0 < l.length → ∃ b o, C = some ⟨b, o, none⟩ ∧ b < w.heap.size ∧ ∀ i (hi : i < l.length) j, j < 6 → w.cell? ⟨b, o + i * 6 + j, none⟩ = some (.int .i64 (nth (opL l[i]) j))
theorem Ops.below {w w' : World} {C : Option Addr} {l : List TOp} (h : Ops w C l) (hb : Below w.heap.size w w') : Ops w' C l := fun hl => by
  obtain ⟨b, o, e, hlt, hc⟩ := h hl
  exact ⟨b, o, e, Nat.lt_of_lt_of_le hlt hb.size, fun i hi j hj => (hb.cell (p := ⟨b, o + i * 6 + j, none⟩) hlt).trans (hc i hi j hj)⟩
theorem Blk.f5 {w : World} {g : Nat} {t : TypeId} {a b c d e : Value} (h : Blk w g t #[a, b, c, d, e]) : w.cell? ⟨g, 0, none⟩ = some a ∧ w.cell? ⟨g, 1, none⟩ = some b ∧ w.cell? ⟨g, 2, none⟩ = some c ∧ w.cell? ⟨g, 3, none⟩ = some d ∧ w.cell? ⟨g, 4, none⟩ = some e ∧
    w.frozen? ⟨g, 0, none⟩ = false ∧ w.frozen? ⟨g, 1, none⟩ = false ∧ w.frozen? ⟨g, 2, none⟩ = false ∧ w.frozen? ⟨g, 3, none⟩ = false ∧ w.frozen? ⟨g, 4, none⟩ = false ∧ g < w.heap.size :=
  ⟨h.cell 0, h.cell 1, h.cell 2, h.cell 3, h.cell 4, h.frozen 0, h.frozen 1, h.frozen 2, h.frozen 3, h.frozen 4, h.lt⟩
theorem blk_set5 {w : World} {R : Nat} {t : TypeId} {a0 b0 c0 d0 e0 : Value} (h : Blk w R t #[a0, b0, c0, d0, e0]) (a b c d e : Value) :
    Blk (((((w.setCell ⟨R, 0, none⟩ a).setCell ⟨R, 1, none⟩ b).setCell ⟨R, 2, none⟩ c).setCell ⟨R, 3, none⟩ d).setCell ⟨R, 4, none⟩ e) R t #[a, b, c, d, e] := ((((h.set_ 0 a).set_ 1 b).set_ 2 c).set_ 3 d).set_ 4 e
theorem below_set5 {w w5 : World} {B R : Nat} (h : Below B w w5) (hR : B ≤ R) (a b c d e : Value) :
    Below B w (((((w5.setCell ⟨R, 0, none⟩ a).setCell ⟨R, 1, none⟩ b).setCell ⟨R, 2, none⟩ c).setCell ⟨R, 3, none⟩ d).setCell ⟨R, 4, none⟩ e) := ((((h.setCell hR _).setCell hR _).setCell hR _).setCell hR _).setCell hR _
theorem blk_far5 {w : World} {R g : Nat} {t : TypeId} {cs : Array Value} (h : Blk w g t cs) (hne : g ≠ R) (a b c d e : Value) :
    Blk (((((w.setCell ⟨R, 0, none⟩ a).setCell ⟨R, 1, none⟩ b).setCell ⟨R, 2, none⟩ c).setCell ⟨R, 3, none⟩ d).setCell ⟨R, 4, none⟩ e) g t cs := ((((h.far (by exact hne) a).far (by exact hne) b).far (by exact hne) c).far (by exact hne) d).far (by exact hne) e
/-- The result of one kind and the other, stored. -/
theorem two_stores {w w3 : World} {n R F : Nat} {t u : TypeId} {a0 b0 c0 d0 e0 f0 g0 : Value} (hb : Below n w w3) (hR : Blk w3 R t #[a0, b0, c0, d0, e0]) (hF : Blk w3 F u #[f0, g0]) (h1 : n ≤ R) (h2 : n ≤ F) (hne : R ≠ F) (a b c d e f g : Value) :
    Below n w ((((((((w3.setCell ⟨R, 0, none⟩ a).setCell ⟨R, 1, none⟩ b).setCell ⟨R, 2, none⟩ c).setCell ⟨R, 3, none⟩ d).setCell ⟨R, 4, none⟩ e).setCell ⟨F, 0, none⟩ f).setCell ⟨F, 1, none⟩ g).drew) ∧
      Blk ((((((((w3.setCell ⟨R, 0, none⟩ a).setCell ⟨R, 1, none⟩ b).setCell ⟨R, 2, none⟩ c).setCell ⟨R, 3, none⟩ d).setCell ⟨R, 4, none⟩ e).setCell ⟨F, 0, none⟩ f).setCell ⟨F, 1, none⟩ g).drew) R t #[a, b, c, d, e] ∧
      Blk ((((((((w3.setCell ⟨R, 0, none⟩ a).setCell ⟨R, 1, none⟩ b).setCell ⟨R, 2, none⟩ c).setCell ⟨R, 3, none⟩ d).setCell ⟨R, 4, none⟩ e).setCell ⟨F, 0, none⟩ f).setCell ⟨F, 1, none⟩ g).drew) F u #[f, g] :=
  ⟨(((below_set5 hb h1 a b c d e).setCell (p := ⟨F, 0, none⟩) h2 f).setCell (p := ⟨F, 1, none⟩) h2 g).drew, (((blk_set5 hR a b c d e).far (p := ⟨F, 0, none⟩) hne f).far (p := ⟨F, 1, none⟩) hne g).drew, (((blk_far5 hF (Ne.symm hne) a b c d e).set_ 0 f).set_ 1 g).drew⟩
/-- A Play's value. -/
def playV (A : Option Addr) (a ca : Nat) (B : Option Addr) (b cb : Nat) (C : Option Addr) (c cc : Nat) (dn : Bool) (E : Option Addr) (e ce : Nat) : Value := .agg #[.slice A a ca, .slice B b cb, .slice C c cc, .bool dn, .slice E e ce]
def PlayNo (ws rs : List Int) (w : World) (e : Ending) (w' : World) : Prop := Below w.heap.size w w' ∧ e = .returned (.tuple #[playV none 0 0 none 0 0 none 0 0 false none 0 0, fltV (rootsF ws rs).1 (rootsF ws rs).2])
def PlayYes (s : TSt) (w : World) (e : Ending) (w' : World) : Prop := Below w.heap.size w w' ∧ ∃ A ca B cb C cc E ce, e = .returned (.tuple #[playV A s.ws.length ca B s.rs.length cb C (colsL s).length cc (doneB s) E (freedL s).length ce, fltV 0 0]) ∧ Ints w' A s.ws ∧ s.ws.length ≤ ca ∧ Ints w' B s.rs ∧ Ints w' C (colsL s) ∧ Ints w' E (freedL s)

section
variable (ws rs : List Int) (ops : List TOp) (A B C : Option Addr) (c d e0 : Nat) (w : World) (hA : Ints w A ws) (hcap : ws.length ≤ c) (hw : I64 ws) (hl : ws.length ≤ 9223372036854775807)
    (hB : Ints w B rs) (hr : I64 rs) (hrl : rs.length ≤ 50000)
include hA hcap hw hl hB hr hrl

set_option maxRecDepth 100000 in
set_option maxHeartbeats 4000000 in
theorem play_no (h0 : (rootsF ws rs).1 ≠ 0) : Calls Try.prog 84 #[.agg #[.slice A ws.length c], .slice B rs.length d, .slice C ops.length e0] w (PlayNo ws rs w) := by
  have hx0 : Below w.heap.size w (((w.alloc (.cells #[.slice A ws.length c] 33)).alloc (.cells #[.slice none 0 0, .slice none 0 0, .slice none 0 0, .bool false, .slice none 0 0] 93)).alloc (.cells #[.int .i64 0, .int .i64 0] 36)) := (((Below.refl _ _).alloc (Nat.le_refl _) _).alloc (by simp) _).alloc (by simp; omega) _
  have HX0 := Lib.hid hx0
  have HSE := Lib.hid (rsee_any ws rs A B c d _ (hA.below hx0) hcap hw hl (hB.below hx0) hr (by omega))
  have HB6 : Hid (Blk (((w.alloc (.cells #[.slice A ws.length c] 33)).alloc (.cells #[.slice none 0 0, .slice none 0 0, .slice none 0 0, .bool false, .slice none 0 0] 93)).alloc (.cells #[.int .i64 0, .int .i64 0] 36)) (w.heap.size + 1) 93 #[.slice none 0 0, .slice none 0 0, .slice none 0 0, .bool false, .slice none 0 0]) := by
    have := (Blk.new (w.alloc (.cells #[.slice A ws.length c] 33)) 93 #[.slice none 0 0, .slice none 0 0, .slice none 0 0, .bool false, .slice none 0 0]).alloc (.cells #[.int .i64 0, .int .i64 0] 36)
    rw [World.size_alloc] at this; exact this
  have HB7 : Hid (Blk (((w.alloc (.cells #[.slice A ws.length c] 33)).alloc (.cells #[.slice none 0 0, .slice none 0 0, .slice none 0 0, .bool false, .slice none 0 0] 93)).alloc (.cells #[.int .i64 0, .int .i64 0] 36)) (w.heap.size + 1 + 1) 36 #[.int .i64 0, .int .i64 0]) := by
    have := Blk.new ((w.alloc (.cells #[.slice A ws.length c] 33)).alloc (.cells #[.slice none 0 0, .slice none 0 0, .slice none 0 0, .bool false, .slice none 0 0] 93)) 36 #[.int .i64 0, .int .i64 0]
    rw [World.size_alloc, World.size_alloc] at this; exact this
  have H0 := Lib.hid h0
  clear hx0 hA hw hB hr h0
  go_enter Try.func84, Try.ntmps84
  go_wp2_with fail
  generalize (((w.alloc (.cells #[.slice A ws.length c] 33)).alloc (.cells #[.slice none 0 0, .slice none 0 0, .slice none 0 0, .bool false, .slice none 0 0] 93)).alloc (.cells #[.int .i64 0, .int .i64 0] 36)) = w1 at *
  refine HSE.out.mono ?_
  rintro e w2 ⟨hb2, h⟩
  rcases h with ⟨h0, rfl⟩ | ⟨h0, -⟩

  rotate_left; · exact absurd h0 H0.out
  have HX2 := Lib.hid (HX0.out.trans (hb2.mono HX0.out.size))
  have HB26 := Lib.hid (HB6.out.below hb2 HB6.out.lt); have HB27 := Lib.hid (HB7.out.below hb2 HB7.out.lt)
  have hfb : ((rootsF ws rs).1 != 0) = true := by simpa using h0
  generalize hf : rootsF ws rs = f at *
  have HF := Lib.hid hf
  clear hb2 h0 hf
  unfold seeV fltV
  have hx3 : Below w2.heap.size w2 (w2.alloc (.cells #[.int .i64 f.1, .int .i64 (f.2 : Int)] 36)) := (Below.refl _ _).alloc (Nat.le_refl _) _
  have HX3 := Lib.hid (HX2.out.trans (hx3.mono HX2.out.size))
  have HB36 := Lib.hid (HB26.out.below hx3 HB26.out.lt); have HB37 := Lib.hid (HB27.out.below hx3 HB27.out.lt)
  have HF3 := Lib.hid (Blk.new w2 36 #[.int .i64 f.1, .int .i64 (f.2 : Int)])
  have hz2 : w.heap.size + 1 + 1 < w2.heap.size := HB27.out.lt
  obtain ⟨x1, x2, x3, x4, x5, x6, x7, x8, x9, x10, x11⟩ := HB36.out.f5
  obtain ⟨y1, y2, y3, y4, y5⟩ := HB37.out.f2
  obtain ⟨z1, z2, z3, z4, z5⟩ := HF3.out.f2
  clear hx3 HB26 HB27 HX2
  go_wp2_with fail
  go_region
  go_wp2_with fail
  refine open_world2 (fun W => Below w.heap.size w W ∧ Blk W (w.heap.size + 1) 93 #[.slice none 0 0, .slice none 0 0, .slice none 0 0, .bool false, .slice none 0 0] ∧ Blk W (w.heap.size + 1 + 1) 36 #[.int .i64 f.1, .int .i64 (f.2 : Int)]) (two_stores HX3.out HB36.out HB37.out (by omega) (by omega) (by omega) _ _ _ _ _ _ _) ?_
  rintro W ⟨hb9, hq9, hf9⟩
  obtain ⟨u1, u2, u3, u4, u5, -⟩ := hq9.f5
  obtain ⟨v1, v2, -⟩ := hf9.f2
  refine bodyPost_ret (v := .tuple #[.agg #[.slice none 0 0, .slice none 0 0, .slice none 0 0, .bool false, .slice none 0 0], .agg #[.int .i64 f.1, .int .i64 (f.2 : Int)]]) (by simp [results, Try.results84, go_sem, u1, u2, u3, u4, u5, v1, v2]) rfl ⟨hb9, ?_⟩
  rw [HF.out]; rfl
end
end Go.Proofs.Ytjpppdacamhhfaa
