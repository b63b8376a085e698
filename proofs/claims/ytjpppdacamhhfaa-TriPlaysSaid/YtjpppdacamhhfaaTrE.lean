/- tri.player: op, the roots; all ops. Conditions: numbers of 64 bits. -/
import Derived.Test.YtjpppdacamhhfaaTrD
import Derived.Test.YtjpppdacamhhfaaMem2
namespace Go.Proofs.Ytjpppdacamhhfaa
open Go.RowKit
set_option linter.unusedVariables false

section
variable (s : TSt) (op : TOp) (base P M : Nat) (A : Option Addr) (c : Nat) (B : Option Addr) (d : Nat) (w : World) (h : PlX w base P M s A c B d) (ho : OpIn op)
include h ho

set_option maxRecDepth 100000 in
set_option maxHeartbeats 4000000 in
theorem op_root (hk : op.k = 4) : Calls Try.prog 140 #[.pointer (some ⟨P, 0, none⟩), opV op] w (OpEnd base P M (doT s op) w) := by
  have hx0 : Below w.heap.size w (w.alloc (.cells #[.int .i64 op.k, .int .i64 op.o, .int .i64 op.a, .int .i64 op.w, .int .i64 op.f, .int .i64 op.s] 100)) := (Below.refl _ _).alloc (Nat.le_refl _) _
  have HX0 := Lib.hid (hx0.mono h.base_le)
  have HPL := Lib.hid (h.move hx0)
  have HOB := Lib.hid (Blk.new w 100 #[.int .i64 op.k, .int .i64 op.o, .int .i64 op.a, .int .i64 op.w, .int .i64 op.f, .int .i64 op.s])
  have hq1 := h.tok.ok.most
  have hrl := h.len
  obtain ⟨a1, a2⟩ := ho.a; obtain ⟨w1', w2'⟩ := ho.w
  generalize hT : doT s op = T
  have HT := Lib.hid (hT.symm.trans (doT_root hk))
  have k1 : (op.k == 1) = false := by rw [hk]; rfl
  have k2 : (op.k == 2) = false := by rw [hk]; rfl
  have k3 : (op.k == 3) = false := by rw [hk]; rfl
  have k4 : (op.k == 4) = true := by rw [hk]; rfl
  clear hx0 h ho hk hT
  unfold opV
  go_enter Try.func140, Try.ntmps140
  go_wp2_with fail
  generalize (w.alloc (.cells #[.int .i64 op.k, .int .i64 op.o, .int .i64 op.a, .int .i64 op.w, .int .i64 op.f, .int .i64 op.s] 100)) = w1 at *
  generalize w.heap.size = O at *
  obtain ⟨x1, x2, x3, x4, x5, x6, x7⟩ := HPL.out.blk.f3
  obtain ⟨y1, y2, y3, y4, y5, y6, y7⟩ := HOB.out.f6
  by_cases h0 : op.a < 0
  · have HTE : Hid (T = s) := by show _ = _; rw [HT.out, if_neg (by omega)]
    have hd0 : decide (0 ≤ op.a) = false := decide_eq_false (by omega)
    go_quiet (fail)
    go_wp2_with fail
    go_end0
    exact ⟨rfl, by rw [HTE.out]; exact ⟨_, _, _, _, HPL.out.move (belowN _ _ _)⟩, HX0.out.trans (belowN _ _ _)⟩
  have h0' : 0 ≤ op.a := by omega
  by_cases hl : (s.rs.length : Int) ≤ op.a
  · have HTE : Hid (T = s) := by show _ = _; rw [HT.out, if_neg (by omega)]
    have hd0 : decide (0 ≤ op.a) = true := decide_eq_true h0'
    have hld : decide (op.a < (s.rs.length : Int)) = false := decide_eq_false (by omega)
    clear h0
    go_quiet (fail)
    go_wp2_with fail
    go_end0
    exact ⟨rfl, by rw [HTE.out]; exact ⟨_, _, _, _, HPL.out.move (belowN _ _ _)⟩, HX0.out.trans (belowN _ _ _)⟩
  have hl' : op.a < (s.rs.length : Int) := by omega
  clear h0 hl
  have HS9 := Lib.hid (fun (W : World) (hB : Below w1.heap.size w1 W) => (⟨(hB.cell (p := ⟨O, 2, none⟩) y7).trans y3, (hB.cell (p := ⟨O, 3, none⟩) y7).trans y4, (hB.cell (p := ⟨P, 1, none⟩) x7).trans x2⟩ : W.cell? ⟨O, 2, none⟩ = some (.int .i64 op.a) ∧ W.cell? ⟨O, 3, none⟩ = some (.int .i64 op.w) ∧ W.cell? ⟨P, 1, none⟩ = some (.slice B s.rs.length d)))
  have hS0 := HS9.out w1.drew (Below.refl _ _).drew
  have HVW := Lib.hid (view_any s.ws P A c _ _ w1.drew (HPL.out.blk.drewN 1) (HPL.out.row.drewN 1) HPL.out.cap HPL.out.tok.ok HPL.out.i64)
  have HHR := Lib.hid (fun (w3 : World) (g : Nat) (hv3 : ViewAt w3 g s.ws) (hb3 : Below w1.heap.size w1 w3) => here_any s.ws s.rs P g B d _ _ op.w w3 (HPL.out.blk.below hb3 HPL.out.blk.lt) hv3 HPL.out.tok.ok HPL.out.i64 ((own_fst HPL.out.own).1.below hb3) (by omega) HPL.out.tok.fit w1' w2')
  go_region_held3 (fun W => W.cell? ⟨O, 2, none⟩ = some (.int .i64 op.a) ∧ W.cell? ⟨O, 3, none⟩ = some (.int .i64 op.w) ∧ W.cell? ⟨P, 1, none⟩ = some (.slice B s.rs.length d))
    (first | (with_reducible exact hS0) | (with_reducible exact hS3) | (with_reducible exact hS4) | go_keep)
    (first
      | (go_at_call 141; (with_reducible refine HVW.out.mono ?_); rintro e w3 ⟨g, rfl, hv3, hb3⟩; have hb3' : Below w1.heap.size w1 w3 := below_of_drew hb3; have hS3 := HS9.out w3 hb3')
      | (go_at_call 161; (with_reducible refine (HHR.out w3 g hv3 hb3').mono ?_); rintro e w4 ⟨rfl, hb4⟩; have hb4' := hb3'.trans (hb4.mono hb3'.size); have hS4 := HS9.out w4 hb4'))
  all_goals
    have HPL4 := Lib.hid (HPL.out.move hb4'); have HOB4 := Lib.hid (HOB.out.below hb4' HOB.out.lt)
    have HX4 := Lib.hid (HX0.out.trans (hb4'.mono HPL.out.base_le))
    clear hS0 hS3 hS4 hb3 hb3' hb4 hb4' hv3 HS9 HVW HHR x1 x2 x3 x4 x5 x6 x7 y1 y2 y3 y4 y5 y6 y7
    obtain ⟨x1, x2, x3, x4, x5, x6, x7⟩ := HPL4.out.blk.f3
    obtain ⟨y1, y2, y3, y4, y5, y6, y7⟩ := HOB4.out.f6
    cases hh : hereB s.ws s.rs op.w
    · have HTE : Hid (T = s) := by show _ = _; rw [HT.out, hh, if_neg (by simp)]
      clear hh
      go_wp2_with fail
      go_end0
      exact ⟨rfl, by rw [HTE.out]; exact ⟨_, _, _, _, HPL4.out⟩, HX4.out⟩
    have hT : T = ⟨s.ws, s.rs.set op.a.toNat op.w, shadeC s.col (nth s.rs op.a.toNat)⟩ := by rw [HT.out, if_pos ⟨h0', hl', hh⟩]; rfl
    have HTE := Lib.hid hT
    have HTK := Lib.hid (rootS_tok HPL4.out.tok h0' hl' hh)
    have hrf := root_fit (op := op) HPL4.out.tok h0' hl'
    obtain ⟨i1, i2⟩ := fit_in hrf
    obtain ⟨sk1, sk2⟩ := shade_ok HPL4.out.tok.three HPL4.out.tok.pl hrf
    have HSK := Lib.hid (And.intro sk1 sk2)
    obtain ⟨gB, rfl, hg1, hg2, -, hg3⟩ := HPL4.out.own.some_ (by omega)
    have e1 := HPL4.out.own.cell op.a.toNat (by omega)
    generalize hsv : nth s.rs op.a.toNat = sv at *
    have HSV := Lib.hid hsv
    have HSH := Lib.hid (shade_any P M _ _ s.col sv w4.drew (HPL4.out.blk.drewN 1) (HPL4.out.col.drewN 1) i1 i2)
    clear hT hh hrf hsv sk1 sk2
    go_wp2_with fail
    go_still_tail 9, (by kernel_rfl)
    change wpList _ _ _ _ _ (World.drew w4)
    go_wp2_with fail
    refine HSH.out.mono ?_
    rintro e w5 ⟨rfl, hm5, ht5⟩
    have ht5' : Turned w4 w5 (fun k => k = M) := ⟨ht5.os, ht5.tape, ht5.output, ht5.size, ht5.block⟩
    have hPL5 := HPL4.out.shade hm5 ht5' ⟨HPL4.out.tok.ok, HPL4.out.tok.fit, HSK.out.1, HSK.out.2⟩
    have HOB5 := Lib.hid (ht5'.blk HOB4.out (fun e => blk_ne_map HOB4.out HPL4.out.col e))
    have HX5 := Lib.hid (HX4.out.trans (turned_base ht5' HPL4.out.lo.2.1 HPL4.out.base_le))
    have HPL5 := Lib.hid hPL5
    clear hPL5 hm5 ht5 ht5' HSH x1 x2 x3 x4 x5 x6 x7 y1 y2 y3 y4 y5 y6 y7 e1 hg2
    obtain ⟨x1, x2, x3, x4, x5, x6, x7⟩ := HPL5.out.blk.f3
    obtain ⟨y1, y2, y3, y4, y5, y6, y7⟩ := HOB5.out.f6
    have e1 := HPL5.out.own.cell op.a.toNat (by dsimp only; omega)
    have f1 := HPL5.out.own.frz op.a.toNat
    dsimp only at e1
    go_wp2_with fail
    go_region
    refine open_world2 (fun W => W = w5.setCell ⟨gB, op.a.toNat, none⟩ (.int .i64 op.w) ∨ W = (w5.setCell ⟨gB, op.a.toNat, none⟩ (.int .i64 op.w)).drew) (.inr rfl) ?_
    rintro w6 hw6
    have hgP : P ≠ gB := fun e => own_ne_blk HPL5.out.own HPL5.out.blk (by decide) (by rw [e]; rfl)
    have hgM : M ≠ gB := fun e => own_ne_map HPL5.out.own HPL5.out.col (by rw [e]; rfl)
    have hpx : PlX (w5.setCell ⟨gB, op.a.toNat, none⟩ (.int .i64 op.w)) base P M ⟨s.ws, s.rs.set op.a.toNat op.w, shadeC s.col sv⟩ A c (some ⟨gB, 0, none⟩) d := by
      have hr : Ints (w5.setCell ⟨gB, op.a.toNat, none⟩ (.int .i64 op.w)) A s.ws := HPL5.out.row.keep (by simp) (fun a ha => Below.heap_setCell _ _ _ _ (by dsimp only; exact HPL5.out.ne a gB ha rfl))
      have htk := HTK.out
      unfold rootS at htk
      rw [HSV.out] at htk
      refine ⟨?_, hr, HPL5.out.cap, ?_, ?_, HPL5.out.col.same (Below.heap_setCell _ _ _ _ hgM), HPL5.out.lo, htk, HPL5.out.i64, by simpa using hrl, HPL5.out.lob⟩
      · rw [List.length_set]; exact HPL5.out.blk.far (by dsimp only; exact hgP) _
      · rw [List.length_set]; exact HPL5.out.own.put op.a.toNat op.w
      · rw [List.length_set]; exact HPL5.out.ne
    have hx6 := HX5.out.setCell (p := ⟨gB, op.a.toNat, none⟩) (by dsimp only; exact (HPL5.out.own.block).1) (.int .i64 op.w)
    have HPX : Hid (PlX w6 base P M ⟨s.ws, s.rs.set op.a.toNat op.w, shadeC s.col sv⟩ A c (some ⟨gB, 0, none⟩) d) := by
      show PlX _ _ _ _ _ _ _ _ _
      rcases hw6 with rfl | rfl
      · exact hpx
      · exact hpx.move (Below.refl _ _).drew
    have HX6 : Hid (Below base w w6) := by
      show Below _ _ _
      rcases hw6 with rfl | rfl
      · exact hx6
      · exact hx6.drew
    clear hpx hx6 hw6 x1 x2 x3 x4 x5 x6 x7 y1 y2 y3 y4 y5 y6 y7 e1 f1
    go_wp2_with fail
    go_end0
    exact ⟨rfl, by rw [HTE.out]; exact ⟨_, _, _, _, HPX.out⟩, HX6.out⟩
end

theorem op_tri (s : TSt) (op : TOp) (base P M : Nat) (w : World) (h : PlAt w base P M s) (ho : OpIn op) (hl : s.rs.length < 100000) :
    Calls Try.prog 140 #[.pointer (some ⟨P, 0, none⟩), opV op] w (OpEnd base P M (doT s op) w) := by
  obtain ⟨A, c, B, d, h⟩ := h
  by_cases h3 : op.k = 3
  · exact op_new s op base P M A c B d w h ho h3 hl
  · by_cases h4 : op.k = 4
    · exact op_root s op base P M A c B d w h ho h4
    · exact op_small s op base P M A c B d w h ho h3 h4
theorem doT_len (s : TSt) (op : TOp) : (doT s op).rs.length ≤ s.rs.length + 1 := by
  rcases doT_cases s op with e | ⟨-, e⟩ | ⟨-, h, e⟩ | ⟨-, h, e⟩ | ⟨-, h, e⟩ <;> rw [e]
  · omega
  · show s.rs.length ≤ _; omega
  · show s.rs.length ≤ _; omega
  · show (s.rs ++ [2 * (s.ws.length : Int)]).length ≤ _; simp
  · show (s.rs.set op.a.toNat op.w).length ≤ _; simp
end Go.Proofs.Ytjpppdacamhhfaa
