/- tri.player: op. Conditions: numbers of 64 bits. -/
import Derived.Test.YtjpppdacamhhfaaTrC
import Derived.Test.YtjpppdacamhhfaaNew
import Derived.BigRegion
namespace Go.Proofs.Ytjpppdacamhhfaa
open Go.RowKit
set_option linter.unusedVariables false

theorem ColAt.grown {w w' : World} {r : Option Nat} {M : Nat} {col : Nat → Int} (h : ColAt w M col) (hg : w.grownBy w' r) (hne : some M ≠ r) : ColAt w' M col := h.same (hg.block M h.lt hne)
theorem ColAt.alloc {w : World} {M : Nat} {col : Nat → Int} (h : ColAt w M col) (o : Obj) : ColAt (w.alloc o) M col := h.same (Below.heap_alloc w o M h.lt)
theorem doT_scan {s : TSt} {op : TOp} (h : op.k = 1) : doT s op = ⟨s.ws, s.rs, scanC s.ws s.col⟩ := by unfold doT; rw [if_pos h]
theorem doT_put {s : TSt} {op : TOp} (h : op.k = 2) : doT s op = if putOk s op = true then putS s op else s := by
  unfold doT; rw [if_neg (by omega), if_pos h]; rfl
theorem doT_new {s : TSt} {op : TOp} (h : op.k = 3) : doT s op = if newE s.ws 0 op.f op.s = 0 then newS s op else s := by
  unfold doT; rw [if_neg (by omega), if_neg (by omega), if_pos h]; rfl
theorem doT_root {s : TSt} {op : TOp} (h : op.k = 4) : doT s op = if 0 ≤ op.a ∧ op.a < s.rs.length ∧ hereB s.ws s.rs op.w = true then rootS s op else s := by
  unfold doT; rw [if_neg (by omega), if_neg (by omega), if_neg (by omega), if_pos h]; rfl
theorem doT_else {s : TSt} {op : TOp} (h1 : op.k ≠ 1) (h2 : op.k ≠ 2) (h3 : op.k ≠ 3) (h4 : op.k ≠ 4) : doT s op = s := by
  unfold doT; rw [if_neg h1, if_neg h2, if_neg h3, if_neg h4]
theorem newW_i64g {ws : List Int} {f z : Int} (hok : OkH ws) (hw : I64 ws) (h : newE ws 0 f z = 0) : I64 (newW ws 0 f z) := by
  obtain ⟨-, f0, f2, hz0, hk, hl, h1⟩ := newE_zero h
  obtain ⟨k, rfl⟩ : ∃ k : Nat, z = k := ⟨z.toNat, by omega⟩
  intro j
  have h0 := hok.w1
  by_cases e1 : j = 1
  · subst e1; rw [newW_nth_one hok.two]; omega
  · rcases Nat.lt_or_ge j ws.length with h | h
    · rw [newW_nth_lt hok.two h e1]; exact hw j
    · rcases Nat.lt_or_ge j (ws.length + 3) with h2 | h2
      · obtain ⟨i, hi, rfl⟩ : ∃ i, i < 3 ∧ j = ws.length + i := ⟨j - ws.length, by omega, by omega⟩
        rw [newW_nth_new i hi]
        have h4 : i = 0 ∨ i = 1 ∨ i = 2 := by omega
        rcases h4 with rfl | rfl | rfl
        · show _ ≤ (0 : Int) ∧ (0 : Int) ≤ _; omega
        · show _ ≤ nth ws 1 ∧ nth ws 1 ≤ _; omega
        · show _ ≤ 4 * (k : Int) + f ∧ 4 * (k : Int) + f ≤ _; omega
      · obtain ⟨i, rfl⟩ : ∃ i, j = ws.length + 3 + i := ⟨j - (ws.length + 3), by omega⟩
        rw [newW_nth_slot]; omega

section
variable (s : TSt) (op : TOp) (base P M : Nat) (A : Option Addr) (c : Nat) (B : Option Addr) (d : Nat) (w : World) (h : PlX w base P M s A c B d) (ho : OpIn op)
include h ho

set_option maxRecDepth 100000 in
set_option maxHeartbeats 4000000 in
theorem op_small (hk : op.k ≠ 3) (hk4 : op.k ≠ 4) : Calls Try.prog 140 #[.pointer (some ⟨P, 0, none⟩), opV op] w (OpEnd base P M (doT s op) w) := by
  have hx0 : Below w.heap.size w (w.alloc (.cells #[.int .i64 op.k, .int .i64 op.o, .int .i64 op.a, .int .i64 op.w, .int .i64 op.f, .int .i64 op.s] 100)) := (Below.refl _ _).alloc (Nat.le_refl _) _
  have HX0 := Lib.hid (hx0.mono h.base_le)
  have HPL := Lib.hid (h.move hx0)
  have HOB := Lib.hid (Blk.new w 100 #[.int .i64 op.k, .int .i64 op.o, .int .i64 op.a, .int .i64 op.w, .int .i64 op.f, .int .i64 op.s])
  have HO := Lib.hid ho
  have HB := Lib.hid h.base_le
  clear hx0 h ho
  have k3 : (op.k == 3) = false := by simpa using hk
  have k4 : (op.k == 4) = false := by simpa using hk4
  by_cases h1 : op.k = 1
  · generalize hT : doT s op = T
    have HT := Lib.hid (hT.symm.trans (doT_scan h1))
    have k1 : (op.k == 1) = true := by simpa using h1
    have HS := Lib.hid (scan_any s.ws P M A c _ s.col _ HPL.out.blk HPL.out.lo.2.2 HPL.out.col HPL.out.row HPL.out.cap HPL.out.tok.ok HPL.out.i64)
    clear hT h1 hk hk4
    unfold opV
    go_enter Try.func140, Try.ntmps140
    go_wp2_with (go_at_call 159; refine HS.out.mono ?_; rintro e w3 ⟨rfl, hm3, ht3⟩; have HM3 := Lib.hid hm3; have HT3 := Lib.hid ht3; clear hm3 ht3)
    go_end0
    refine ⟨rfl, ?_, HX0.out.trans (turned_base HT3.out HPL.out.lo.2.1 HPL.out.base_le)⟩
    rw [HT.out]
    exact ⟨_, _, _, _, HPL.out.shade HM3.out HT3.out (scan_ok HPL.out.tok)⟩
  have k1 : (op.k == 1) = false := by simpa using h1
  by_cases h2 : op.k = 2
  · generalize hT : doT s op = T
    have HT := Lib.hid (hT.symm.trans (doT_put h2))
    have k2 : (op.k == 2) = true := by simpa using h2
    have HS := Lib.hid (put_tri s op base P M A c B d _ HPL.out HO.out)
    rw [← HT.out] at HS
    have hz : w.heap.size < (w.alloc (.cells #[.int .i64 op.k, .int .i64 op.o, .int .i64 op.a, .int .i64 op.w, .int .i64 op.f, .int .i64 op.s] 100)).heap.size := HOB.out.lt
    clear hT h1 h2 hk hk4
    unfold opV at HS ⊢
    go_enter Try.func140, Try.ntmps140
    go_wp2_with (go_at_call 160; refine HS.out.mono ?_; rintro e w3 ⟨rfl, hp3, hb3⟩; have HP3 := Lib.hid hp3; have HB3 := Lib.hid hb3; clear hp3 hb3)
    go_end0
    exact ⟨rfl, HP3.out, HX0.out.trans HB3.out⟩
  · generalize hT : doT s op = T
    have HT := Lib.hid (hT.symm.trans (doT_else h1 h2 hk hk4))
    have k2 : (op.k == 2) = false := by simpa using h2
    clear hT h1 h2 hk hk4
    unfold opV
    go_enter Try.func140, Try.ntmps140
    go_wp2_with fail
    go_end0
    exact ⟨rfl, by rw [HT.out]; exact ⟨_, _, _, _, HPL.out⟩, HX0.out⟩

set_option maxRecDepth 100000 in
set_option maxHeartbeats 4000000 in
theorem op_new (hk : op.k = 3) (hlen : s.rs.length < 100000) : Calls Try.prog 140 #[.pointer (some ⟨P, 0, none⟩), opV op] w (OpEnd base P M (doT s op) w) := by
  have hx0 : Below w.heap.size w (w.alloc (.cells #[.int .i64 op.k, .int .i64 op.o, .int .i64 op.a, .int .i64 op.w, .int .i64 op.f, .int .i64 op.s] 100)) := (Below.refl _ _).alloc (Nat.le_refl _) _
  have HX0 := Lib.hid (hx0.mono h.base_le)
  have HPL := Lib.hid (h.move hx0)
  have HOB := Lib.hid (Blk.new w 100 #[.int .i64 op.k, .int .i64 op.o, .int .i64 op.a, .int .i64 op.w, .int .i64 op.f, .int .i64 op.s])
  have hq1 := h.tok.ok.most
  have hq0 := h.tok.ok.two
  obtain ⟨f1, f2⟩ := ho.f; obtain ⟨s1, s2⟩ := ho.s
  generalize hT : doT s op = T
  have HT := Lib.hid (hT.symm.trans (doT_new hk))
  have k1 : (op.k == 1) = false := by rw [hk]; rfl
  have k2 : (op.k == 2) = false := by rw [hk]; rfl
  have k3 : (op.k == 3) = true := by rw [hk]; rfl
  clear hx0 h ho hk hT
  unfold opV
  go_enter Try.func140, Try.ntmps140
  go_wp2_with fail
  generalize (w.alloc (.cells #[.int .i64 op.k, .int .i64 op.o, .int .i64 op.a, .int .i64 op.w, .int .i64 op.f, .int .i64 op.s] 100)) = w1 at *
  generalize w.heap.size = O at *
  have hblk := HPL.out.blk
  have hA := HPL.out.row
  have hcap := HPL.out.cap
  obtain ⟨x1, x2, x3, x4, x5, x6, x7⟩ := hblk.f3
  obtain ⟨y1, y2, y3, y4, y5, y6, y7⟩ := HOB.out.f6
  have hPw : P < w1.heap.size := HPL.out.blk.lt
  have HBw := Lib.hid (fun k hk => (HPL.out.own.lt k hk).2)
  have hpo : newOut s.ws 0 op.f op.s = newR s.ws 0 op.f op.s := by unfold newOut; rw [if_pos (okB_iff.2 HPL.out.tok.ok)]
  have hct : ∀ W, Below w1.heap.size w1 W → Calls Try.prog 46 #[.agg #[.slice A s.ws.length c], .int .i64 0, .int .i64 op.f, .int .i64 op.s] W (HeapOut (newR s.ws 0 op.f op.s) W) := fun W hW => by
    rw [← hpo]
    exact new_any s.ws A c 0 op.f op.s W (hA.below hW) hcap HPL.out.i64 (by omega) (by omega) (by omega) f1 f2 s1 s2
  have HS9 := Lib.hid (fun (W : World) (hB : Below w1.heap.size w1 W) => (⟨(hB.cell (p := ⟨P, 0, none⟩) x7).trans x1, (hB.cell (p := ⟨O, 4, none⟩) y7).trans y5, (hB.cell (p := ⟨O, 5, none⟩) y7).trans y6⟩ : W.cell? ⟨P, 0, none⟩ = some (.slice A s.ws.length c) ∧ W.cell? ⟨O, 4, none⟩ = some (.int .i64 op.f) ∧ W.cell? ⟨O, 5, none⟩ = some (.int .i64 op.s)))
  have hc0 := hct w1.drew (Below.refl _ _).drew
  have hca := hct ((w1.alloc (.cells #[.slice none 0 0] 33)).drew) (((Below.refl _ _).alloc (Nat.le_refl _) _).drew)
  have hS0 := HS9.out w1.drew (Below.refl _ _).drew
  have hSa := HS9.out ((w1.alloc (.cells #[.slice none 0 0] 33)).drew) (((Below.refl _ _).alloc (Nat.le_refl _) _).drew)
  clear hblk hA hcap hpo hct
  generalize hr : newR s.ws 0 op.f op.s = r at *
  have HR := Lib.hid hr
  obtain ⟨rd, ro, re⟩ := r
  clear hr
  go_region_held3 (fun W => W.cell? ⟨P, 0, none⟩ = some (.slice A s.ws.length c) ∧ W.cell? ⟨O, 4, none⟩ = some (.int .i64 op.f) ∧ W.cell? ⟨O, 5, none⟩ = some (.int .i64 op.s))
    (first | (with_reducible exact hS0) | (with_reducible exact hSa) | (with_reducible exact hS1) | (with_reducible exact hS2) | go_keep)
    (first
      | (go_at_call 46; (with_reducible refine hc0.mono ?_); rintro e w5 ⟨hb5, A5, c5, rfl, ho5⟩; have hbA := below_of_drew hb5; have hS1 := HS9.out w5 hbA; have hS2 := HS9.out (w5.alloc (.cells #[.slice A5 rd.length c5] 33)) (hbA.alloc hbA.size _))
      | (go_at_call 46; (with_reducible refine hca.mono ?_); rintro e w5 ⟨hb5, A5, c5, rfl, ho5⟩; have hbA := (((Below.refl w1.heap.size w1).alloc (Nat.le_refl _) (.cells #[.slice none 0 0] 33)).trans ((below_of_drew hb5).mono (by simp))); have hS1 := HS9.out w5 hbA; have hzb := ((Blk.new w1 33 #[.slice none 0 0]).below (below_of_drew hb5) (Blk.lt (Blk.new w1 33 #[.slice none 0 0]))); obtain ⟨t1, t2, t3⟩ := hzb.f1; have hS2 := HS9.out (w5.setCell ⟨w1.heap.size, 0, none⟩ (.slice A5 rd.length c5)) (hbA.setCell (Nat.le_refl _) _)))
  all_goals first
    | (refine open_world2 (fun W => Below w1.heap.size w1 W ∧ Blk W w5.heap.size 33 #[.slice A5 rd.length c5] ∧ Own W w1.heap.size (.slice A5 rd.length c5) rd) ⟨hbA.alloc hbA.size (.cells #[.slice A5 rd.length c5] 33), Blk.new w5 33 #[.slice A5 rd.length c5], Own.alloc ho5 (.cells #[.slice A5 rd.length c5] 33)⟩ ?_
       rintro w6 ⟨hb6, hg6, ho6⟩
       have hG : w1.heap.size ≤ w5.heap.size := hbA.size
       generalize w5.heap.size = G at *)
    | (refine open_world2 (fun W => Below w1.heap.size w1 W ∧ Blk W w1.heap.size 33 #[.slice A5 rd.length c5] ∧ Own W w1.heap.size (.slice A5 rd.length c5) rd) ⟨hbA.setCell (Nat.le_refl _) _, hzb.set_ 0 _, (Own.mono (base' := w1.heap.size) ho5 (by simp)).setCell _ (by intro e; have h8 := (ho5.lt _ e).1; have h9 : (w1.alloc (.cells #[.slice none 0 0] 33)).drew.heap.size = w1.heap.size + 1 := World.size_alloc ..; rw [h9] at h8; dsimp only at h8; omega) _⟩ ?_
       rintro w6 ⟨hb6, hg6, ho6⟩
       have hG : w1.heap.size ≤ w1.heap.size := Nat.le_refl _
       generalize hGE : w1.heap.size = G at hg6 hG ⊢
       rw [← hGE] at hG
       clear hGE)
  all_goals
    have HPL6 := Lib.hid (HPL.out.move hb6)
    have HX6 := Lib.hid (HX0.out.trans (hb6.mono HPL.out.base_le))
    have HG6 := Lib.hid hg6; have HO6 := Lib.hid ho6
    have HBS := Lib.hid HPL.out.base_le
    clear hb6 hg6 ho6 hbA hS1 hS2 hS0 hSa hca hc0 HS9 hb5 ho5 x1 x2 x3 x4 x5 x6 x7 y1 y2 y3 y4 y5 y6 y7
    by_cases hE : newE s.ws 0 op.f op.s = 0
    case neg =>
      have h1 : newR s.ws 0 op.f op.s = ([], 0, newE s.ws 0 op.f op.s) := by unfold newR; rw [if_neg hE]
      have h2 := HR.out.symm.trans h1
      simp only [Prod.mk.injEq] at h2
      obtain ⟨rfl, rfl, rfl⟩ := h2
      have hT : T = s := by rw [HT.out, if_neg hE]
      have HTE := Lib.hid hT
      have hne : (newE s.ws 0 op.f op.s == 0) = false := by simpa using hE
      clear hE h1 hT
      generalize newE s.ws 0 op.f op.s = E at *
      go_wp2_with fail
      go_end0
      exact ⟨rfl, by rw [HTE.out]; exact ⟨_, _, _, _, HPL6.out⟩, HX6.out⟩
    have h1 : newR s.ws 0 op.f op.s = (newW s.ws 0 op.f op.s, 2 * (s.ws.length : Int), 0) := by unfold newR; rw [if_pos hE]
    have h2 := HR.out.symm.trans h1
    simp only [Prod.mk.injEq] at h2
    obtain ⟨rfl, rfl, rfl⟩ := h2
    clear h1
    have hT : T = ⟨newW s.ws 0 op.f op.s, s.rs ++ [2 * (s.ws.length : Int)], upd s.col s.ws.length 2⟩ := by rw [HT.out, if_pos hE]; rfl
    have HTE := Lib.hid hT
    have HTK := Lib.hid (newS_tok HPL.out.tok hE)
    have HI := Lib.hid (newW_i64g HPL.out.tok.ok HPL.out.i64 hE)
    obtain ⟨x1, x2, x3, x4, x5, x6, x7⟩ := HPL6.out.blk.f3
    obtain ⟨z1, z2, z3⟩ := HG6.out.f1
    have hdv : (2 * (s.ws.length : Int)) / 2 = (s.ws.length : Int) := by omega
    have hwp : IntKind.i64.wrap ((s.ws.length : Nat) : Int) = ((s.ws.length : Nat) : Int) := IntWalk.i64_in _ (by omega)
    clear hT hE
    -- the heap is stored
    have HAN := Lib.hid (fun (a : Addr) (ha : A5 = some a) => (show w1.heap.size ≤ a.block by
      obtain ⟨A9, c9, e, -, -, hh⟩ := HO6.out.form2
      injection e with e1
      subst e1
      exact (hh a ha).1))
    have hb7 := HPL6.out.blk.set_ 0 (.slice A5 (newW s.ws 0 op.f op.s).length c5)
    have ho7 := HO6.out.setCell ⟨P, 0, none⟩ (by intro e; have := (HO6.out.lt _ e).1; dsimp only at this; omega) (.slice A5 (newW s.ws 0 op.f op.s).length c5)
    have hr7 := HPL6.out.own.setCell ⟨P, 0, none⟩ (own_ne_blk HPL6.out.own HPL6.out.blk (by decide)) (.slice A5 (newW s.ws 0 op.f op.s).length c5)
    have hm7 : ColAt (w6.setCell ⟨P, 0, none⟩ (.slice A5 (newW s.ws 0 op.f op.s).length c5)) M s.col := HPL6.out.col.same (Below.heap_setCell _ _ _ _ (Ne.symm HPL6.out.lo.2.2))
    have hx7 := HX6.out.setCell (p := ⟨P, 0, none⟩) HPL6.out.lo.1 (.slice A5 (newW s.ws 0 op.f op.s).length c5)
    obtain ⟨n7, f7, hmi7, hmf7⟩ := hm7
    have HB7 : Hid (Blk (w6.setCell ⟨P, 0, none⟩ (.slice A5 (newW s.ws 0 op.f op.s).length c5)) P 171 #[.slice A5 (newW s.ws 0 op.f op.s).length c5, .slice B s.rs.length d, .map (some M)]) := hb7
    have HO7 := Lib.hid ho7; have HR7 := Lib.hid hr7; have HMI := Lib.hid hmi7; have HMF := Lib.hid hmf7; have HX7 := Lib.hid hx7
    have hBM : (Value.slice B s.rs.length d).ownBlock ≠ some M := own_ne_map HPL6.out.own HPL6.out.col
    have hAM : (Value.slice A5 (newW s.ws 0 op.f op.s).length c5).ownBlock ≠ some M := own_ne_map HO6.out HPL6.out.col
    have hPB : some P ≠ (Value.slice B s.rs.length d).ownBlock := fun e => own_ne_blk HPL6.out.own HPL6.out.blk (by decide) e.symm
    have hMB : some M ≠ (Value.slice B s.rs.length d).ownBlock := fun e => hBM e.symm
    have hAB : (Value.slice A5 (newW s.ws 0 op.f op.s).length c5).ownBlock = none ∨ (Value.slice A5 (newW s.ws 0 op.f op.s).length c5).ownBlock ≠ (Value.slice B s.rs.length d).ownBlock := by
      cases e : (Value.slice A5 (newW s.ws 0 op.f op.s).length c5).ownBlock with
      | none => exact .inl rfl
      | some k =>
        right
        intro e2
        have h8 := (HO6.out.lt k e).1
        have h9 := HBw.out k e2.symm
        omega
    have hPM : some P ≠ some M := fun e => by cases e; exact HPL6.out.lo.2.2 rfl
    have hbz : base ≤ (w6.setCell ⟨P, 0, none⟩ (.slice A5 (newW s.ws 0 op.f op.s).length c5)).heap.size := by have := HPL6.out.base_le; simpa using this
    have hbM : ∀ k, some M = some k → base ≤ k := fun k e => by cases e; exact HPL6.out.lo.2.1
    have hbB : ∀ k, (Value.slice B s.rs.length d).ownBlock = some k → base ≤ k := fun k e => (HPL6.out.own.lt k e).1
    have hlj : s.rs.length + [2 * (s.ws.length : Int)].length ≤ 1000000000 := by simp; omega
    clear hb7 ho7 hr7 hmi7 hmf7 hx7
    go_wp2_with (first
      | (at_mapUpdate; refine wpList_store rfl _ _ _ 110 3 rfl Try.underlying110 HMI.out rfl ((s.ws.length : Nat) : Int) rfl (.int .i64 2) rfl (by omega) (by omega) ?_; intro w8 hm8 hgr8; have hz8 := Nat.le_trans hbz hgr8.size; have HZ8 := Lib.hid (Nat.le_trans hz8 (Below.alloc (Below.refl w8.heap.size w8) (Nat.le_refl _) (.cells #[.int .i64 (2 * (s.ws.length : Int))] 3)).size); have HM8 := Lib.hid ((ColAt.put HMF.out hm8).alloc (.cells #[.int .i64 (2 * (s.ws.length : Int))] 3)); have hb8 := HB7.out.grown hgr8 hPM; have HB8 := Lib.hid (hb8.alloc (.cells #[.int .i64 (2 * (s.ws.length : Int))] 3)); have HR8 := Lib.hid ((HR7.out.grown hgr8 (.inr hBM)).alloc (.cells #[.int .i64 (2 * (s.ws.length : Int))] 3)); have HO8 := Lib.hid ((HO7.out.grown hgr8 (.inr hAM)).alloc (.cells #[.int .i64 (2 * (s.ws.length : Int))] 3)); have HY8 := Lib.hid (ints_new w8 [2 * (s.ws.length : Int)]); have HX8 := Lib.hid ((HX7.out.grown hgr8 hbz hbM).alloc hz8 (.cells #[.int .i64 (2 * (s.ws.length : Int))] 3)); obtain ⟨u1, u2, u3, u4, u5, u6, u7⟩ := hb8.f3; clear hm8 hgr8 hb8)
      | (at_builtin; refine wpList_joinM rfl _ _ rfl base (.slice B s.rs.length d) s.rs rfl HR8.out (some ⟨w8.heap.size, 0, none⟩) 1 [2 * (s.ws.length : Int)] rfl HY8.out hlj HZ8.out ?_; intro B9 n9 d9 w9 hown9 hgr9 hat9; have hb9 := HB8.out.grown hgr9 hPB; have HB9 := Lib.hid hb9; have HR9 := Lib.hid hown9; have HO9 := Lib.hid (HO8.out.grown hgr9 hAB); have HM9 := Lib.hid (HM8.out.grown hgr9 hMB); have HX9 := Lib.hid (HX8.out.grown hgr9 HZ8.out hbB); have HAT := Lib.hid hat9; clear u1 u2 u3 u4 u5 u6 u7; obtain ⟨u1, u2, u3, u4, u5, u6, u7⟩ := hb9.f3; clear hown9 hgr9 hat9 hb9))
    have hn9 : n9 = (s.rs ++ [2 * (s.ws.length : Int)]).length := by
      obtain ⟨A9, c9, e9, -, -, -⟩ := HR9.out.form2
      injection e9
    have hpx : PlX (w9.setCell ⟨P, 1, none⟩ (.slice B9 n9 d9)) base P M ⟨newW s.ws 0 op.f op.s, s.rs ++ [2 * (s.ws.length : Int)], upd s.col s.ws.length 2⟩ A5 c5 B9 d9 := by
      subst hn9
      have ha := HO9.out.setCell ⟨P, 1, none⟩ (own_ne_blk HO9.out HB9.out (by decide)) (.slice B9 (s.rs ++ [2 * (s.ws.length : Int)]).length d9)
      refine ⟨HB9.out.set_ 1 _, (own_fst ha).1, (own_fst ha).2, HR9.out.setCell _ (own_ne_blk HR9.out HB9.out (by decide)) _, fun a k ha' hk' => ?_, HM9.out.same (Below.heap_setCell _ _ _ _ (Ne.symm HPL6.out.lo.2.2)), HPL6.out.lo, HTK.out, HI.out, by simp; omega, fun a ha => by have := HAN.out a ha; have := HPL.out.base_le; omega⟩
      have h8 := HAN.out a ha'
      have h9 : (Value.slice A5 (newW s.ws 0 op.f op.s).length c5).ownBlock = some a.block := by rw [ha']; rfl
      have h10 := (HO8.out.lt _ h9).2
      rcases HAT.out k hk' with e | e
      · have := HBw.out k e; omega
      · omega
    have HPX := Lib.hid hpx
    clear u1 u2 u3 u4 u5 u6 u7 hpx hn9
    go_end0
    exact ⟨rfl, by rw [HTE.out]; exact ⟨_, _, _, _, HPX.out⟩, HX9.out.setCell HPL6.out.lo.1 _⟩
end
end Go.Proofs.Ytjpppdacamhhfaa
