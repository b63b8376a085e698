/- tri.player: put. Conditions: numbers of 64 bits. -/
import Derived.Test.YtjpppdacamhhfaaTrB
import Derived.Test.YtjpppdacamhhfaaPut
import Derived.StillTailTactics
import Derived.Deep.RegionHeld3
namespace Go.Proofs.Ytjpppdacamhhfaa
open Go.RowKit
set_option linter.unusedVariables false

/-- An op, as a value. -/
def opV (op : TOp) : Value := .agg #[.int .i64 op.k, .int .i64 op.o, .int .i64 op.a, .int .i64 op.w, .int .i64 op.f, .int .i64 op.s]
def inI (x : Int) : Prop := -9223372036854775808 ≤ x ∧ x ≤ 9223372036854775807
structure OpIn (op : TOp) : Prop where
  k : inI op.k
  o : inI op.o
  a : inI op.a
  w : inI op.w
  f : inI op.f
  s : inI op.s
/-- A player at P, its colours at M, its rows at A and B. -/
structure PlX (w : World) (base P M : Nat) (s : TSt) (A : Option Addr) (c : Nat) (B : Option Addr) (d : Nat) : Prop where
  blk : Blk w P 171 #[.slice A s.ws.length c, .slice B s.rs.length d, .map (some M)]
  row : Ints w A s.ws
  cap : s.ws.length ≤ c
  own : Own w base (.slice B s.rs.length d) s.rs
  ne : ∀ a k, A = some a → (Value.slice B s.rs.length d).ownBlock = some k → a.block ≠ k
  col : ColAt w M s.col
  lo : base ≤ P ∧ base ≤ M ∧ P ≠ M
  tok : TOk s
  i64 : I64 s.ws
  len : s.rs.length ≤ 100000
  lob : ∀ a, A = some a → base ≤ a.block
def PlAt (w : World) (base P M : Nat) (s : TSt) : Prop := ∃ A c B d, PlX w base P M s A c B d
def OpEnd (base P M : Nat) (s : TSt) (w : World) (e : Ending) (w' : World) : Prop := e = .returned (.tuple #[]) ∧ PlAt w' base P M s ∧ Below base w w'
theorem Blk.f6 {w : World} {g : Nat} {t : TypeId} {a b c d e f : Value} (h : Blk w g t #[a, b, c, d, e, f]) : w.cell? ⟨g, 0, none⟩ = some a ∧ w.cell? ⟨g, 1, none⟩ = some b ∧ w.cell? ⟨g, 2, none⟩ = some c ∧ w.cell? ⟨g, 3, none⟩ = some d ∧ w.cell? ⟨g, 4, none⟩ = some e ∧ w.cell? ⟨g, 5, none⟩ = some f ∧ g < w.heap.size :=
  ⟨h.cell 0, h.cell 1, h.cell 2, h.cell 3, h.cell 4, h.cell 5, h.lt⟩
theorem open_world2 {E : Act → World → Prop} {a : Act} {W : World} (Q : World → Prop) (hq : Q W) (h : ∀ W', Q W' → E a W') : E a W := h W hq
theorem own_fst {w : World} {base n c : Nat} {A : Option Addr} {xs : List Int} (h : Own w base (.slice A n c) xs) : Ints w A xs ∧ n ≤ c := by
  obtain ⟨A', c', e, h1, h2, -⟩ := h.form2
  cases e
  exact ⟨h1, h2⟩
theorem blk_ne {w : World} {g h : Nat} {t u : TypeId} {cs ds : Array Value} (hg : Blk w g t cs) (hh : Blk w h u ds) (hne : t ≠ u) : g ≠ h := by
  rintro rfl
  have := hg.symm.trans hh
  simp at this
  exact hne this.2
theorem own_ne_blk {w : World} {base g : Nat} {t : TypeId} {cs : Array Value} {v : Value} {xs : List Int} (h : Own w base v xs) (hg : Blk w g t cs) (ht : t ≠ 3) : v.ownBlock ≠ some g := by
  intro e
  rcases h.2 with ⟨rfl, _⟩ | ⟨k, cap, cur, rfl, hb, hh, -⟩
  · simp [Value.ownBlock] at e
  · simp [Value.ownBlock] at e
    subst e
    have := hh.symm.trans hg
    simp at this
    exact ht this.2.symm
theorem own_ne_map {w : World} {base M : Nat} {col : Nat → Int} {v : Value} {xs : List Int} (h : Own w base v xs) (hM : ColAt w M col) : v.ownBlock ≠ some M := by
  intro e
  rcases h.2 with ⟨rfl, _⟩ | ⟨k, cap, cur, rfl, hb, hh, -⟩
  · simp [Value.ownBlock] at e
  · simp [Value.ownBlock] at e
    subst e
    obtain ⟨n, f, ⟨es, clock, hb, -⟩, -⟩ := hM
    rw [hb] at hh
    simp at hh
theorem blk_ne_map {w : World} {g M : Nat} {t : TypeId} {cs : Array Value} {col : Nat → Int} (h : Blk w g t cs) (hM : ColAt w M col) : g ≠ M := by
  rintro rfl
  obtain ⟨n, f, ⟨es, clock, hb, -⟩, -⟩ := hM
  have := hb.symm.trans h
  simp at this
section
variable {w w' : World} {base P M : Nat} {s : TSt} {A : Option Addr} {c : Nat} {B : Option Addr} {d : Nat}
theorem PlX.move (h : PlX w base P M s A c B d) (hb : Below w.heap.size w w') : PlX w' base P M s A c B d :=
  ⟨h.blk.below hb h.blk.lt, h.row.below hb, h.cap, h.own.below hb (fun k hk => (h.own.lt k hk).2), h.ne, h.col.same (hb.block M h.col.lt), h.lo, h.tok, h.i64, h.len, h.lob⟩
theorem PlX.base_le (h : PlX w base P M s A c B d) : base ≤ w.heap.size := by
  have := h.col.lt; have := h.lo; omega
/-- Colours turned. -/
theorem PlX.shade {col : Nat → Int} (h : PlX w base P M s A c B d) (hc : ColAt w' M col) (ht : Turned w w' (fun k => k = M)) (hk : TOk ⟨s.ws, s.rs, col⟩) : PlX w' base P M ⟨s.ws, s.rs, col⟩ A c B d := by
  refine ⟨ht.blk h.blk h.lo.2.2, ?_, h.cap, ht.own h.own (fun k hk e => own_ne_map h.own h.col (by rw [hk, e])), h.ne, hc, h.lo, hk, h.i64, h.len, h.lob⟩
  refine h.row.keep ht.size (fun a ha => ?_)
  by_cases hl : 0 < s.ws.length
  · obtain ⟨b, o, e, hlt, hr⟩ := h.row hl
    rw [ha] at e
    cases e
    exact ht.block b hlt (cell_ne_map (hr 0 hl) h.col)
  · exact absurd h.tok.ok.two (by omega)
/-- Another heap: a row of the call's own from n on, above the player's blocks. -/
theorem PlX.heap {n : Nat} {xs : List Int} {A' : Option Addr} {c' l : Nat} (h : PlX w base P M s A c B d) (ho : Own w n (.slice A' l c') xs) (hP : P < n) (hB : ∀ k, (Value.slice B s.rs.length d).ownBlock = some k → k < n) (hl : l = xs.length) (hk : TOk ⟨xs, s.rs, s.col⟩) (hi : I64 xs) :
    PlX (w.setCell ⟨P, 0, none⟩ (.slice A' l c')) base P M ⟨xs, s.rs, s.col⟩ A' c' B d := by
  subst hl
  have hA : ∀ a, A' = some a → n ≤ a.block := fun a ha => by
    obtain ⟨A9, c9, e, -, -, hh⟩ := ho.form2
    cases e
    exact (hh a ha).1
  have ho2 := ho.setCell ⟨P, 0, none⟩ (by intro e; have := (ho.lt _ e).1; dsimp only at this; omega) (.slice A' xs.length c')
  refine ⟨h.blk.set_ 0 _, (own_fst ho2).1, (own_fst ho).2, h.own.setCell _ (own_ne_blk h.own h.blk (by decide)) _, fun a k ha hk' => ?_, h.col.same (Below.heap_setCell _ _ _ _ (Ne.symm h.lo.2.2)), h.lo, hk, hi, h.len, fun a ha => by have := hA a ha; have := h.lo.1; omega⟩
  have := hA a ha; have := hB k hk'; omega
end
theorem turned_base {w w' : World} {base M : Nat} (h : Turned w w' (fun k => k = M)) (hM : base ≤ M) (hb : base ≤ w.heap.size) : Below base w w' := h.below hb (fun k hk e => by omega)
theorem fit_in {ws : List Int} {o : Int} (h : fitsB ws o = true) : inI o := by
  unfold fitsB at h
  rw [Bool.or_eq_true, Bool.or_eq_true, beq_iff_eq, beq_iff_eq] at h
  unfold inI
  rcases h with (h | h) | h
  · unfold kd at h; split at h <;> first | omega | skip
    all_goals (repeat (split at h)) <;> omega
  · unfold kd at h; split at h <;> first | omega | skip
    all_goals (repeat (split at h)) <;> omega
  · have := (isTh_mem h).2; omega

theorem putW_i64 {ws : List Int} {x a w : Int} (hi : I64 ws) (h : inI w) : I64 (putW ws x a w) := fun j => by
  unfold putW
  rw [nth_set_]
  split
  · exact h
  · exact hi j
theorem putOk_of {s : TSt} {op : TOp} (h1 : putE s.ws op.o op.a op.w = 0) (h2 : hereB s.ws s.rs op.o = true) (h3 : formOf s.ws (pcl op.o) = 1 ∨ hereB s.ws s.rs op.w = true) : putOk s op = true := by
  unfold putOk
  rw [h1, h2]
  rcases h3 with h | h <;> rw [h] <;> simp

set_option maxRecDepth 100000 in
set_option maxHeartbeats 4000000 in
theorem put_tri (s : TSt) (op : TOp) (base P M : Nat) (A : Option Addr) (c : Nat) (B : Option Addr) (d : Nat) (w : World) (h : PlX w base P M s A c B d) (ho : OpIn op) :
    Calls Try.prog 160 #[.pointer (some ⟨P, 0, none⟩), opV op] w (OpEnd base P M (if putOk s op = true then putS s op else s) w) := by
  have hx0 : Below w.heap.size w (w.alloc (.cells #[.int .i64 op.k, .int .i64 op.o, .int .i64 op.a, .int .i64 op.w, .int .i64 op.f, .int .i64 op.s] 100)) := (Below.refl _ _).alloc (Nat.le_refl _) _
  have HX0 := Lib.hid (hx0.mono h.base_le)
  have HPL := Lib.hid (h.move hx0)
  have HOB := Lib.hid (Blk.new w 100 #[.int .i64 op.k, .int .i64 op.o, .int .i64 op.a, .int .i64 op.w, .int .i64 op.f, .int .i64 op.s])
  have HO := Lib.hid ho
  have hq1 := h.tok.ok.most
  have hq0 := h.tok.ok.two
  have hrl := h.len
  obtain ⟨o1, o2⟩ := ho.o; obtain ⟨a1, a2⟩ := ho.a; obtain ⟨w1', w2'⟩ := ho.w
  clear hx0 h ho
  generalize hT : (if putOk s op = true then putS s op else s) = T
  have HT := Lib.hid hT
  clear hT
  unfold opV
  go_enter Try.func160, Try.ntmps160
  go_wp2_with fail
  generalize (w.alloc (.cells #[.int .i64 op.k, .int .i64 op.o, .int .i64 op.a, .int .i64 op.w, .int .i64 op.f, .int .i64 op.s] 100)) = w1 at *
  generalize w.heap.size = O at *
  have hblk := HPL.out.blk
  have hA := HPL.out.row
  have hcap := HPL.out.cap
  obtain ⟨x1, x2, x3, x4, x5, x6, x7⟩ := hblk.f3
  obtain ⟨y1, y2, y3, y4, y5, y6, y7⟩ := HOB.out.f6
  have hPw : P < w1.heap.size := HPL.out.blk.lt
  have HBw := Lib.hid (fun k hk => (HPL.out.own.lt k hk).2)
  have hpo : putOut s.ws op.o op.a op.w = putR s.ws op.o op.a op.w := by unfold putOut; rw [if_pos (okB_iff.2 HPL.out.tok.ok)]
  have hct : ∀ W, Below w1.heap.size w1 W → Calls Try.prog 50 #[.agg #[.slice A s.ws.length c], .int .i64 op.o, .int .i64 op.a, .int .i64 op.w] W (HeapOut2 (putR s.ws op.o op.a op.w) W) := fun W hW => by
    rw [← hpo]
    exact put_any s.ws A c op.o op.a op.w W (hA.below hW) hcap HPL.out.i64 (by omega) o1 o2 a1 a2 w1' w2'
  have HS9 := Lib.hid (fun (W : World) (hB : Below w1.heap.size w1 W) => (⟨(hB.cell (p := ⟨P, 0, none⟩) x7).trans x1, (hB.cell (p := ⟨O, 1, none⟩) y7).trans y2, (hB.cell (p := ⟨O, 2, none⟩) y7).trans y3, (hB.cell (p := ⟨O, 3, none⟩) y7).trans y4⟩ : W.cell? ⟨P, 0, none⟩ = some (.slice A s.ws.length c) ∧ W.cell? ⟨O, 1, none⟩ = some (.int .i64 op.o) ∧ W.cell? ⟨O, 2, none⟩ = some (.int .i64 op.a) ∧ W.cell? ⟨O, 3, none⟩ = some (.int .i64 op.w)))
  have hc0 := hct w1.drew (Below.refl _ _).drew
  have hca := hct ((w1.alloc (.cells #[.slice none 0 0] 33)).drew) (((Below.refl _ _).alloc (Nat.le_refl _) _).drew)
  have hS0 := HS9.out w1.drew (Below.refl _ _).drew
  have hSa := HS9.out ((w1.alloc (.cells #[.slice none 0 0] 33)).drew) (((Below.refl _ _).alloc (Nat.le_refl _) _).drew)
  have hn1 : P ≠ w1.heap.size := by omega
  have hn2 : O ≠ w1.heap.size := by omega
  clear hblk hA hcap hpo hct
  generalize hr : putR s.ws op.o op.a op.w = r at *
  have HR := Lib.hid hr
  obtain ⟨rd, re⟩ := r
  clear hr
  go_region_held3 (fun W => W.cell? ⟨P, 0, none⟩ = some (.slice A s.ws.length c) ∧ W.cell? ⟨O, 1, none⟩ = some (.int .i64 op.o) ∧ W.cell? ⟨O, 2, none⟩ = some (.int .i64 op.a) ∧ W.cell? ⟨O, 3, none⟩ = some (.int .i64 op.w))
    (first | (with_reducible exact hS0) | (with_reducible exact hSa) | (with_reducible exact hS1) | (with_reducible exact hS2) | go_keep)
    (first
      | (go_at_call 50; (with_reducible refine hc0.mono ?_); rintro e w5 ⟨hb5, A5, c5, rfl, ho5⟩; have hbA := below_of_drew hb5; have hS1 := HS9.out w5 hbA; have hS2 := HS9.out (w5.alloc (.cells #[.slice A5 rd.length c5] 33)) (hbA.alloc hbA.size _))
      | (go_at_call 50; (with_reducible refine hca.mono ?_); rintro e w5 ⟨hb5, A5, c5, rfl, ho5⟩; have hbA := (((Below.refl w1.heap.size w1).alloc (Nat.le_refl _) (.cells #[.slice none 0 0] 33)).trans ((below_of_drew hb5).mono (by simp))); have hS1 := HS9.out w5 hbA; have hzb := ((Blk.new w1 33 #[.slice none 0 0]).below (below_of_drew hb5) (Blk.lt (Blk.new w1 33 #[.slice none 0 0]))); obtain ⟨t1, t2, t3⟩ := hzb.f1; have hS2 := HS9.out (w5.setCell ⟨w1.heap.size, 0, none⟩ (.slice A5 rd.length c5)) (hbA.setCell (Nat.le_refl _) _)))
  all_goals first
    | (refine open_world2 (fun W => Below w1.heap.size w1 W ∧ Blk W w5.heap.size 33 #[.slice A5 rd.length c5] ∧ Own W w1.heap.size (.slice A5 rd.length c5) rd) ⟨hbA.alloc hbA.size (.cells #[.slice A5 rd.length c5] 33), Blk.new w5 33 #[.slice A5 rd.length c5], Own.alloc ho5 (.cells #[.slice A5 rd.length c5] 33)⟩ ?_
       rintro w6 ⟨hb6, hg6, ho6⟩
       have hG : w1.heap.size ≤ w5.heap.size := hbA.size
       generalize w5.heap.size = G at *)
    | (refine open_world2 (fun W => Below w1.heap.size w1 W ∧ Blk W w1.heap.size 33 #[.slice A5 rd.length c5] ∧ Own W w1.heap.size (.slice A5 rd.length c5) rd) ⟨hbA.setCell (Nat.le_refl _) _, hzb.set_ 0 _, (Own.mono (base' := w1.heap.size) ho5 (by simp)).setCell _ (by intro e; have h8 := (ho5.lt _ e).1; have h9 : (w1.alloc (.cells #[.slice none 0 0] 33)).drew.heap.size = w1.heap.size + 1 := World.size_alloc ..; rw [h9] at h8; dsimp only at h8; omega) _⟩ ?_
       rintro w6 ⟨hb6, hg6, ho6⟩
       have hG : w1.heap.size ≤ w1.heap.size := Nat.le_refl _
       generalize hGE : w1.heap.size = G at hg6 hG ⊢
       rw [← hGE] at hG
       clear hGE)
  all_goals
    have HPL6 := Lib.hid (HPL.out.move hb6)
    have HOB6 := Lib.hid (HOB.out.below hb6 HOB.out.lt)
    have HX6 := Lib.hid (HX0.out.trans (hb6.mono HPL.out.base_le))
    have HG6 := Lib.hid hg6; have HO6 := Lib.hid ho6
    have HBS := Lib.hid HPL.out.base_le
    clear hb6 hg6 ho6 hbA hS1 hS2 hS0 hSa hca hc0 HS9 hb5 ho5 x1 x2 x3 x4 x5 x6 x7 y1 y2 y3 y4 y5 y6 y7 hn1 hn2
    by_cases hE : putE s.ws op.o op.a op.w = 0
    case neg =>
      have h1 : putR s.ws op.o op.a op.w = ([], putE s.ws op.o op.a op.w) := by unfold putR; rw [if_neg hE]
      have h2 := HR.out.symm.trans h1
      simp only [Prod.mk.injEq] at h2
      obtain ⟨rfl, rfl⟩ := h2
      have hT : T = s := by
        rw [← HT.out, if_neg]
        intro h; exact hE (put_parts h).1
      have HTE := Lib.hid hT
      have hne : (putE s.ws op.o op.a op.w != 0) = true := by simpa using hE
      clear hE h1 hT
      generalize putE s.ws op.o op.a op.w = E at *
      go_wp2_with fail
      go_end0
      exact ⟨rfl, by rw [HTE.out]; exact ⟨_, _, _, _, HPL6.out⟩, HX6.out⟩
    have h1 : putR s.ws op.o op.a op.w = (putW s.ws op.o op.a op.w, 0) := by unfold putR; rw [if_pos hE]
    have h2 := HR.out.symm.trans h1
    simp only [Prod.mk.injEq] at h2
    obtain ⟨rfl, rfl⟩ := h2
    clear h1
    have HVW := Lib.hid (view_any s.ws P A c _ _ w6 HPL6.out.blk HPL6.out.row HPL6.out.cap HPL6.out.tok.ok HPL6.out.i64)
    go_wp2_with fail
    refine HVW.out.mono ?_
    rintro e w7 ⟨g, rfl, hv7, hb7⟩
    have HPL7 := Lib.hid (HPL6.out.move hb7)
    have HOB7 := Lib.hid (HOB6.out.below hb7 HOB6.out.lt); have HG7 := Lib.hid (HG6.out.below hb7 HG6.out.lt)
    have HO7 := Lib.hid (HO6.out.below hb7 (fun k hk => (HO6.out.lt k hk).2))
    have HX7 := Lib.hid (HX6.out.trans (hb7.mono HPL6.out.base_le)); have HV7 := Lib.hid hv7
    clear hb7 hv7 HVW HG6 HO6 HOB6
    obtain ⟨ht1, ht2, ht3, ht4⟩ := put_th hE
    have hpb := not_bad (places_mem ht2).2.2
    have HHR := Lib.hid ht1
    have HFM := Lib.hid (formv_any HV7.out HPL7.out.i64 (by omega) (pcl op.o) (by omega))
    obtain ⟨r1, r2, r3, r4⟩ := th_range (th_kd ht1)
    have hwp : IntKind.i64.wrap ((pcl op.o : Nat) : Int) = ((pcl op.o : Nat) : Int) := IntWalk.i64_in _ (by omega)
    obtain ⟨y1, y2, y3, y4, y5, y6, y7⟩ := HOB7.out.f6
    have HHO := Lib.hid (here_any s.ws s.rs P g B d _ _ op.o w7 HPL7.out.blk HV7.out HPL7.out.tok.ok HPL7.out.i64 (own_fst HPL7.out.own).1 (by omega) HPL7.out.tok.fit o1 o2)
    clear ht1 hpb
    go_wp2_with (go_at_call 97; refine HFM.out.mono ?_; rintro e w' ⟨rfl, rfl⟩)
    refine HHO.out.mono ?_
    rintro e w8 ⟨rfl, hb8⟩
    have HPL8 := Lib.hid (HPL7.out.move hb8)
    have HOB8 := Lib.hid (HOB7.out.below hb8 HOB7.out.lt); have HG8 := Lib.hid (HG7.out.below hb8 HG7.out.lt)
    have HO8 := Lib.hid (HO7.out.below hb8 (fun k hk => (HO7.out.lt k hk).2))
    have HX8 := Lib.hid (HX7.out.trans (hb8.mono HPL7.out.base_le)); have HV8 := Lib.hid (HV7.out.below hb8)
    clear hb8 HHO HPL7 HOB7 HG7 HO7 HX7 HV7 y1 y2 y3 y4 y5 y6 y7
    obtain ⟨y1, y2, y3, y4, y5, y6, y7⟩ := HOB8.out.f6
    obtain ⟨x1, x2, x3, x4, x5, x6, x7⟩ := HPL8.out.blk.f3
    obtain ⟨z1, z2, z3⟩ := HG8.out.f1
    cases hho : hereB s.ws s.rs op.o
    · have hT : T = s := by
        rw [← HT.out, if_neg]
        intro h; rw [(put_parts h).2.1] at hho; cases hho
      have HTE := Lib.hid hT
      clear hT hho
      go_wp2_with fail
      go_end0
      exact ⟨rfl, by rw [HTE.out]; exact ⟨_, _, _, _, HPL8.out⟩, HX8.out⟩
    have HH := Lib.hid hho
    by_cases hf1 : formOf s.ws (pcl op.o) = 1
    · have hok := putOk_of hE hho (.inl hf1)
      have hT : T = ⟨putW s.ws op.o op.a op.w, s.rs, s.col⟩ := by
        rw [← HT.out, if_pos hok]; unfold putS; rw [if_neg (by omega)]
      have HTE := Lib.hid hT
      have htk : TOk ⟨putW s.ws op.o op.a op.w, s.rs, s.col⟩ := by have := putS_tok HPL8.out.tok hok; unfold putS at this; rwa [if_neg (by omega)] at this
      have HTK := Lib.hid htk
      have hfb : (formOf s.ws (pcl op.o) != 1) = false := by simpa using hf1
      have hfc : (formOf s.ws (pcl op.o) == 0) = false := by rw [hf1]; rfl
      clear hok hT htk hho hE hf1
      generalize formOf s.ws (pcl op.o) = ff at *
      go_wp2_with fail
      go_end0
      exact ⟨rfl, by rw [HTE.out]; exact ⟨_, _, _, _, HPL8.out.heap HO8.out hPw HBw.out rfl HTK.out (putW_i64 HPL8.out.i64 ⟨w1', w2'⟩)⟩, HX8.out.setCell HPL8.out.lo.1 _⟩
    have hfb : (formOf s.ws (pcl op.o) != 1) = true := by simpa using hf1
    have HHW := Lib.hid (here_any s.ws s.rs P g B d _ _ op.w w8 HPL8.out.blk HV8.out HPL8.out.tok.ok HPL8.out.i64 (own_fst HPL8.out.own).1 (by omega) HPL8.out.tok.fit w1' w2')
    generalize hff : formOf s.ws (pcl op.o) = ff at *
    have HFF := Lib.hid hff
    clear hff hho
    go_wp2_with fail
    refine HHW.out.mono ?_
    rintro e w9 ⟨rfl, hb9⟩
    have HPL9 := Lib.hid (HPL8.out.move hb9)
    have HOB9 := Lib.hid (HOB8.out.below hb9 HOB8.out.lt); have HG9 := Lib.hid (HG8.out.below hb9 HG8.out.lt)
    have HO9 := Lib.hid (HO8.out.below hb9 (fun k hk => (HO8.out.lt k hk).2))
    have HX9 := Lib.hid (HX8.out.trans (hb9.mono HPL8.out.base_le)); have HV9 := Lib.hid (HV8.out.below hb9)
    clear hb9 HHW HPL8 HOB8 HG8 HO8 HX8 HV8 y1 y2 y3 y4 y5 y6 y7 x1 x2 x3 x4 x5 x6 x7 z1 z2 z3
    obtain ⟨y1, y2, y3, y4, y5, y6, y7⟩ := HOB9.out.f6
    obtain ⟨x1, x2, x3, x4, x5, x6, x7⟩ := HPL9.out.blk.f3
    obtain ⟨z1, z2, z3⟩ := HG9.out.f1
    cases hhw : hereB s.ws s.rs op.w
    · have hT : T = s := by
        rw [← HT.out, if_neg]
        intro h
        rcases (put_parts h).2.2 with h2 | h2
        · exact hf1 (by rw [← HFF.out]; exact h2)
        · rw [h2] at hhw; cases hhw
      have HTE := Lib.hid hT
      clear hT hhw hf1
      go_wp2_with fail
      go_end0
      exact ⟨rfl, by rw [HTE.out]; exact ⟨_, _, _, _, HPL9.out⟩, HX9.out⟩
    have hok := putOk_of hE HH.out (.inr hhw)
    have HTKP := Lib.hid (putS_tok HPL9.out.tok hok)
    have HTP : Hid (T = putS s op) := by show _ = _; rw [← HT.out, if_pos hok]
    by_cases hf0 : ff = 0
    case neg =>
      have hT : putS s op = ⟨putW s.ws op.o op.a op.w, s.rs, s.col⟩ := by unfold putS; rw [if_neg (by rw [HFF.out]; exact hf0)]
      have htk := HTKP.out
      rw [hT] at htk
      have HTE := Lib.hid (HTP.out.trans hT)
      have HTK := Lib.hid htk
      have hfc : (ff == 0) = false := by simpa using hf0
      clear hok hT htk hhw hE hf1 hf0
      go_wp2_with fail
      go_end0
      exact ⟨rfl, by rw [HTE.out]; exact ⟨_, _, _, _, HPL9.out.heap HO9.out hPw HBw.out rfl HTK.out (putW_i64 HPL9.out.i64 ⟨w1', w2'⟩)⟩, HX9.out.setCell HPL9.out.lo.1 _⟩
    have hT : putS s op = ⟨putW s.ws op.o op.a op.w, s.rs, shadeC s.col (nth (slotsL s.ws (pcl op.o)) op.a.toNat)⟩ := by unfold putS; rw [if_pos (by rw [HFF.out]; exact hf0)]
    have htk := HTKP.out
    rw [hT] at htk
    have HTE := Lib.hid (HTP.out.trans hT)
    have HTK := Lib.hid htk
    have hsf := slot_fit (op := op) HPL9.out.tok hE (by rw [HFF.out]; exact hf0)
    obtain ⟨sk1, sk2⟩ := shade_ok HPL9.out.tok.three HPL9.out.tok.pl hsf
    have hfc : (ff == 0) = true := by simpa using hf0
    have HPB := Lib.hid (places_mem ht2).2.2
    obtain ⟨b', o', c', M', n', f', A', oc', hgg, hlb, hblg, hcc, hrow, hmm, hfi, hii⟩ := HV9.out.at_
    have hsl := slots_any s.ws g b' o' c' (pcl op.o) w9.drew (cell_of_row w9 g 0 _ 112 (0, 0) hblg) (Row_drewN hrow 1) HPL9.out.i64 (by omega) HPB.out hcc
    have hn60 : slotsN s.ws (pcl op.o) ≤ 60 := by have := not_bad HPB.out; unfold slotsN; omega
    have hsi := ints_slots hrow hlb HPB.out hcc
    have hne := slotsA_ne b' o' c' (pcl op.o) (by have := not_bad HPB.out; unfold slotsN at ht4; omega)
    rw [hne] at hsl hsi
    have hlen := slotsL_len HPB.out
    obtain ⟨b8, o8, e8, -, hsi⟩ := hsi (by omega)
    cases e8
    have e1 := hsi op.a.toNat (by omega)
    have HSL := Lib.hid hsl
    obtain ⟨i1, i2⟩ := fit_in hsf
    generalize hsv : nth (slotsL s.ws (pcl op.o)) op.a.toNat = sv at *
    have HSV := Lib.hid hsv
    have hSd : w9.drew.cell? ⟨O, 1, none⟩ = some (.int .i64 op.o) ∧ w9.drew.cell? ⟨O, 2, none⟩ = some (.int .i64 op.a) ∧ w9.drew.cell? ⟨b', o' + (pcl op.o + 3) + op.a.toNat, none⟩ = some (.int .i64 sv) := ⟨y2, y3, e1⟩
    have hSn : ∀ m, (w9.drew.drewN m).cell? ⟨O, 1, none⟩ = some (.int .i64 op.o) ∧ (w9.drew.drewN m).cell? ⟨O, 2, none⟩ = some (.int .i64 op.a) ∧ (w9.drew.drewN m).cell? ⟨b', o' + (pcl op.o + 3) + op.a.toNat, none⟩ = some (.int .i64 sv) := fun m => ⟨y2, y3, e1⟩
    have hSm : ∀ m, (w9.drewN m).cell? ⟨O, 1, none⟩ = some (.int .i64 op.o) ∧ (w9.drewN m).cell? ⟨O, 2, none⟩ = some (.int .i64 op.a) ∧ (w9.drewN m).cell? ⟨b', o' + (pcl op.o + 3) + op.a.toNat, none⟩ = some (.int .i64 sv) := fun m => ⟨y2, y3, e1⟩
    have hOM : O ≠ M := cell_ne_map y2 HPL9.out.col
    have hbM : b' ≠ M := cell_ne_map e1 HPL9.out.col
    have HSK := Lib.hid (And.intro sk1 sk2)
    have HSH := Lib.hid (fun m => shade_any P M _ _ s.col sv (w9.drewN m) (HPL9.out.blk.drewN m) (HPL9.out.col.drewN m) i1 i2)
    have hai : op.a < (slotsN s.ws (pcl op.o) : Int) := by omega
    clear hok hT htk hhw hE hf1 hf0 hsv hblg hrow hmm hfi hii hsl hne hsi sk1 sk2 hsf hlen HTKP HTP
    go_wp2_with fail
    go_region_held3 (fun W => W.cell? ⟨O, 1, none⟩ = some (.int .i64 op.o) ∧ W.cell? ⟨O, 2, none⟩ = some (.int .i64 op.a) ∧ W.cell? ⟨b', o' + (pcl op.o + 3) + op.a.toNat, none⟩ = some (.int .i64 sv))
      (first | (with_reducible exact hSt) | (with_reducible exact hSd) | (with_reducible exact hSn _) | (with_reducible exact hSm _) | go_keep)
      (first
        | (go_at_call 98; (with_reducible refine HSL.out.mono ?_); rintro e w' ⟨rfl, m, rfl⟩)
        | (go_at_call 139; refine (HSH.out _).mono ?_; rintro e w10 ⟨rfl, hm10, ht10⟩; have hSt : w10.cell? ⟨O, 1, none⟩ = some (.int .i64 op.o) ∧ w10.cell? ⟨O, 2, none⟩ = some (.int .i64 op.a) ∧ w10.cell? ⟨b', o' + (pcl op.o + 3) + op.a.toNat, none⟩ = some (.int .i64 sv) := ⟨(World.cell?_of_block (a := ⟨O, 1, none⟩) (ht10.block O y7 hOM)).trans y2, (World.cell?_of_block (a := ⟨O, 2, none⟩) (ht10.block O y7 hOM)).trans y3, (World.cell?_of_block (a := ⟨b', o' + (pcl op.o + 3) + op.a.toNat, none⟩) (ht10.block b' hlb hbM)).trans e1⟩))
    all_goals
      have ht10' : Turned w9 w10 (fun k => k = M) := ⟨ht10.os, ht10.tape, ht10.output, ht10.size, ht10.block⟩
      have hPL10 := HPL9.out.shade hm10 ht10' ⟨HPL9.out.tok.ok, HPL9.out.tok.fit, HSK.out.1, HSK.out.2⟩
      have hG10 := ht10'.blk HG9.out (fun e => blk_ne_map HG9.out HPL9.out.col e)
      have hO10 := ht10'.own HO9.out (fun k hk e => own_ne_map HO9.out HPL9.out.col (by rw [hk, e]))
      have HX10 := Lib.hid (HX9.out.trans (turned_base ht10' HPL9.out.lo.2.1 HPL9.out.base_le))
      have HPL10 := Lib.hid hPL10; have HO10 := Lib.hid hO10
      clear hSt hSd hSn hSm HSH HSL y1 y2 y3 y4 y5 y6 y7 x1 x2 x3 x4 x5 x6 x7 z1 z2 z3 e1 hm10 ht10 ht10' hO10
      obtain ⟨x1, x2, x3, x4, x5, x6, x7⟩ := hPL10.blk.f3
      obtain ⟨z1, z2, z3⟩ := hG10.f1
      clear hPL10 hG10
      go_wp2_with fail
      go_end0
      exact ⟨rfl, by rw [HTE.out]; exact ⟨_, _, _, _, HPL10.out.heap HO10.out hPw HBw.out rfl HTK.out (putW_i64 HPL10.out.i64 ⟨w1', w2'⟩)⟩, HX10.out.setCell HPL10.out.lo.1 _⟩
end Go.Proofs.Ytjpppdacamhhfaa
