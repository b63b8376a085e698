/- tri.Play where the roots may be: up to the colours' telling. Conditions: numbers of 64 bits. -/
import Derived.Test.YtjpppdacamhhfaaTrF
namespace Go.Proofs.Ytjpppdacamhhfaa
open Go.RowKit
set_option linter.unusedVariables false

theorem col_new (w : World) : ColAt (w.alloc (.map #[] 0)) w.heap.size (fun _ => 0) := ⟨0, _, MapI.new w, fun p => .inl ⟨rfl, rfl⟩⟩
theorem start_take {ws rs : List Int} (hok : OkH ws) (hf : ∀ o ∈ rs, fitsB ws o = true) (j : Nat) : TOk ⟨ws, rs, shades (fun _ => 0) (rs.take j)⟩ := by
  obtain ⟨g1, g2⟩ := shades_ok (ws := ws) (l := rs.take j) (col := fun _ => 0) (fun _ => .inl rfl) (fun p h => absurd rfl h) (fun o ho => hf o (List.mem_of_mem_take ho))
  exact ⟨hok, hf, g1, g2⟩
theorem play_step (ws rs : List Int) {ops : List TOp} {j : Nat} (hj : j < ops.length) : (ops.take (j + 1)).foldl doT (startT ws rs) = doT ((ops.take j).foldl doT (startT ws rs)) ops[j] := by
  rw [List.take_succ_eq_append_getElem hj, List.foldl_append]; rfl
theorem fold_len (ops : List TOp) : ∀ (s : TSt), (ops.foldl doT s).rs.length ≤ s.rs.length + ops.length := by
  induction ops with
  | nil => intro s; simp
  | cons op ops ih =>
    intro s
    have h1 := ih (doT s op)
    have h2 := doT_len s op
    simp only [List.foldl_cons, List.length_cons]; omega

/-- The references of the white ones. -/
def whites (col : Nat → Int) (l : List Nat) : List Int := (l.filter fun p => col p == 0).map fun (p : Nat) => 2 * (p : Int)
theorem whites_snoc (col : Nat → Int) (l : List Nat) (p : Nat) : whites col (l ++ [p]) = whites col l ++ (if col p = 0 then [2 * (p : Int)] else []) := by
  unfold whites
  rw [List.filter_append, List.map_append]
  by_cases h : col p = 0 <;> simp [h]
theorem whites_len (col : Nat → Int) (l : List Nat) : (whites col l).length ≤ l.length := by
  unfold whites; rw [List.length_map]; exact List.length_filter_le _ _
theorem row_ne_blk5 {w : World} {b Q n : Nat} {t : TypeId} {v1 v2 v3 v5 : Option Addr} {n1 n2 n3 n5 c1 c2 c3 c5 : Nat} {dn : Bool} {x : Int} (h : w.cell? ⟨b, n, none⟩ = some (.int .i64 x)) (hQ : Blk w Q t #[.slice v1 n1 c1, .slice v2 n2 c2, .slice v3 n3 c3, .bool dn, .slice v5 n5 c5]) : b ≠ Q := by
  rintro rfl
  rw [hQ.cell] at h
  rcases n with _ | _ | _ | _ | _ | n <;> simp at h
/-- How a Play under way lies. -/
structure OutAt (w9 wr : World) (Q : Nat) (S : TSt) (A9 : Option Addr) (c9 : Nat) (B9 : Option Addr) (d9 : Nat) (lc lw ld : List Nat) (C8 : Option Addr) (nc cc : Nat) (dn : Bool) (E8 : Option Addr) (ne ce : Nat) : Prop where
  blk : Blk wr Q 93 #[.slice A9 S.ws.length c9, .slice B9 S.rs.length d9, .slice C8 nc cc, .bool dn, .slice E8 ne ce]
  cols : Own wr w9.heap.size (.slice C8 nc cc) (lc.map S.col)
  wh : Own wr w9.heap.size (.slice E8 ne ce) (whites S.col lw)
  far : ∀ q, (Value.slice C8 nc cc).ownBlock = some q → (Value.slice E8 ne ce).ownBlock ≠ some q
  done : dn = ld.all fun p => S.col p != 1
  turn : Turned w9 wr (fun k => k = Q)
section
variable {w9 wr W w10 : World} {Q : Nat} {S : TSt} {A9 : Option Addr} {c9 : Nat} {B9 : Option Addr} {d9 : Nat} {lc lw ld : List Nat} {C8 : Option Addr} {nc cc : Nat} {dn : Bool} {E8 : Option Addr} {ne ce : Nat} {X : Option Addr} {n k p : Nat}
theorem OutAt.pushC (h : OutAt w9 wr Q S A9 c9 B9 d9 lc lw ld C8 nc cc dn E8 ne ce) (hQ : Q < w9.heap.size) (hb : Below wr.heap.size wr W) (hown : Own w10 w9.heap.size (.slice X n k) (lc.map S.col ++ [S.col p])) (hgr : W.grownBy w10 (Value.slice C8 nc cc).ownBlock)
    (hat : ∀ q, (Value.slice X n k).ownBlock = some q → (Value.slice C8 nc cc).ownBlock = some q ∨ q = W.heap.size) :
    Blk w10 Q 93 #[.slice A9 S.ws.length c9, .slice B9 S.rs.length d9, .slice C8 nc cc, .bool dn, .slice E8 ne ce] ∧ OutAt w9 (w10.setCell ⟨Q, 2, none⟩ (.slice X n k)) Q S A9 c9 B9 d9 (lc ++ [p]) lw ld X n k dn E8 ne ce := by
  have hQC : some Q ≠ (Value.slice C8 nc cc).ownBlock := fun e => by have := (h.cols.lt Q e.symm).1; omega
  have hq := (h.blk.below hb h.blk.lt).grown hgr hQC
  have hEC : (Value.slice E8 ne ce).ownBlock = none ∨ (Value.slice E8 ne ce).ownBlock ≠ (Value.slice C8 nc cc).ownBlock := by
    cases e : (Value.slice C8 nc cc).ownBlock with
    | none => cases e2 : (Value.slice E8 ne ce).ownBlock with
      | none => exact .inl rfl
      | some x => exact .inr (fun h => nomatch h)
    | some q => exact .inr (h.far q e)
  have hw := (h.wh.below hb (fun q hq => (h.wh.lt q hq).2)).grown hgr hEC
  have ht : Turned w9 w10 (fun k => k = Q) := (h.turn.trans (turned_below_ hb (fun k => k = Q)) (fun _ _ h => h)).grown hgr (fun q e => .inr (h.cols.lt q e).1)
  refine ⟨hq, hq.set_ 2 _, ?_, hw.setCell _ (fun e => by have := (h.wh.lt _ e).1; dsimp only at this; omega) _, fun q hq2 e => ?_, h.done, ht.setCell (.inl rfl) _⟩
  · rw [List.map_append]
    exact hown.setCell _ (fun e => by have := (hown.lt _ e).1; dsimp only at this; omega) _
  · rcases hat q hq2 with e2 | e2
    · exact h.far q e2 e
    · have := (h.wh.lt q e).2; have := hb.size; omega
theorem OutAt.pushE (h : OutAt w9 wr Q S A9 c9 B9 d9 lc lw ld C8 nc cc dn E8 ne ce) (hQ : Q < w9.heap.size) (hb : Below wr.heap.size wr W) (h0 : S.col p = 0) (hown : Own w10 w9.heap.size (.slice X n k) (whites S.col lw ++ [2 * (p : Int)])) (hgr : W.grownBy w10 (Value.slice E8 ne ce).ownBlock)
    (hat : ∀ q, (Value.slice X n k).ownBlock = some q → (Value.slice E8 ne ce).ownBlock = some q ∨ q = W.heap.size) :
    Blk w10 Q 93 #[.slice A9 S.ws.length c9, .slice B9 S.rs.length d9, .slice C8 nc cc, .bool dn, .slice E8 ne ce] ∧ OutAt w9 (w10.setCell ⟨Q, 4, none⟩ (.slice X n k)) Q S A9 c9 B9 d9 lc (lw ++ [p]) ld C8 nc cc dn X n k := by
  have hQE : some Q ≠ (Value.slice E8 ne ce).ownBlock := fun e => by have := (h.wh.lt Q e.symm).1; omega
  have hq := (h.blk.below hb h.blk.lt).grown hgr hQE
  have hCE : (Value.slice C8 nc cc).ownBlock = none ∨ (Value.slice C8 nc cc).ownBlock ≠ (Value.slice E8 ne ce).ownBlock := by
    cases e : (Value.slice C8 nc cc).ownBlock with
    | none => exact .inl rfl
    | some q => exact .inr (fun e2 => h.far q e e2.symm)
  have hc := (h.cols.below hb (fun q hq => (h.cols.lt q hq).2)).grown hgr hCE
  have ht : Turned w9 w10 (fun k => k = Q) := (h.turn.trans (turned_below_ hb (fun k => k = Q)) (fun _ _ h => h)).grown hgr (fun q e => .inr (h.wh.lt q e).1)
  refine ⟨hq, hq.set_ 4 _, hc.setCell _ (fun e => by have := (h.cols.lt _ e).1; dsimp only at this; omega) _, ?_, fun q hq2 e => ?_, h.done, ht.setCell (.inl rfl) _⟩
  · rw [whites_snoc, if_pos h0]
    exact hown.setCell _ (fun e => by have := (hown.lt _ e).1; dsimp only at this; omega) _
  · rcases hat q e with e2 | e2
    · exact h.far q hq2 e2
    · have := (h.cols.lt q hq2).2; have := hb.size; omega
theorem OutAt.grey (h : OutAt w9 wr Q S A9 c9 B9 d9 lc lw ld C8 nc cc dn E8 ne ce) (hQ : Q < w9.heap.size) (h1 : S.col p = 1) : OutAt w9 (wr.setCell ⟨Q, 3, none⟩ (.bool false)) Q S A9 c9 B9 d9 lc lw (ld ++ [p]) C8 nc cc false E8 ne ce := by
  refine ⟨h.blk.set_ 3 _, h.cols.setCell _ (fun e => by have := (h.cols.lt _ e).1; dsimp only at this; omega) _, h.wh.setCell _ (fun e => by have := (h.wh.lt _ e).1; dsimp only at this; omega) _, h.far, ?_, h.turn.setCell (.inl rfl) _⟩
  rw [List.all_append]; simp [h1]
theorem OutAt.white (h : OutAt w9 wr Q S A9 c9 B9 d9 lc lw ld C8 nc cc dn E8 ne ce) (h1 : S.col p ≠ 1) : OutAt w9 wr Q S A9 c9 B9 d9 lc lw (ld ++ [p]) C8 nc cc dn E8 ne ce := by
  refine ⟨h.blk, h.cols, h.wh, h.far, ?_, h.turn⟩
  rw [List.all_append, h.done]; simp [h1]
theorem OutAt.black (h : OutAt w9 wr Q S A9 c9 B9 d9 lc lw ld C8 nc cc dn E8 ne ce) (h1 : S.col p ≠ 0) : OutAt w9 wr Q S A9 c9 B9 d9 lc (lw ++ [p]) ld C8 nc cc dn E8 ne ce := by
  refine ⟨h.blk, h.cols, ?_, h.far, h.done, h.turn⟩
  rw [whites_snoc, if_neg h1, List.append_nil]; exact h.wh
end

theorem two_stores0 {w w3 : World} {n R F : Nat} {t u : TypeId} {a0 b0 c0 d0 e0 f0 g0 : Value} (hb : Below n w w3) (hR : Blk w3 R t #[a0, b0, c0, d0, e0]) (hF : Blk w3 F u #[f0, g0]) (h1 : n ≤ R) (h2 : n ≤ F) (hne : R ≠ F) (a b c d e f g : Value) :
    Below n w (((((((w3.setCell ⟨R, 0, none⟩ a).setCell ⟨R, 1, none⟩ b).setCell ⟨R, 2, none⟩ c).setCell ⟨R, 3, none⟩ d).setCell ⟨R, 4, none⟩ e).setCell ⟨F, 0, none⟩ f).setCell ⟨F, 1, none⟩ g) ∧
      Blk (((((((w3.setCell ⟨R, 0, none⟩ a).setCell ⟨R, 1, none⟩ b).setCell ⟨R, 2, none⟩ c).setCell ⟨R, 3, none⟩ d).setCell ⟨R, 4, none⟩ e).setCell ⟨F, 0, none⟩ f).setCell ⟨F, 1, none⟩ g) R t #[a, b, c, d, e] ∧
      Blk (((((((w3.setCell ⟨R, 0, none⟩ a).setCell ⟨R, 1, none⟩ b).setCell ⟨R, 2, none⟩ c).setCell ⟨R, 3, none⟩ d).setCell ⟨R, 4, none⟩ e).setCell ⟨F, 0, none⟩ f).setCell ⟨F, 1, none⟩ g) F u #[f, g] ∧
      (∀ k, k ≠ R → k ≠ F → (((((((w3.setCell ⟨R, 0, none⟩ a).setCell ⟨R, 1, none⟩ b).setCell ⟨R, 2, none⟩ c).setCell ⟨R, 3, none⟩ d).setCell ⟨R, 4, none⟩ e).setCell ⟨F, 0, none⟩ f).setCell ⟨F, 1, none⟩ g).heap[k]? = w3.heap[k]?) ∧
      w3.heap.size ≤ (((((((w3.setCell ⟨R, 0, none⟩ a).setCell ⟨R, 1, none⟩ b).setCell ⟨R, 2, none⟩ c).setCell ⟨R, 3, none⟩ d).setCell ⟨R, 4, none⟩ e).setCell ⟨F, 0, none⟩ f).setCell ⟨F, 1, none⟩ g).heap.size :=
  ⟨((below_set5 hb h1 a b c d e).setCell (p := ⟨F, 0, none⟩) h2 f).setCell (p := ⟨F, 1, none⟩) h2 g, ((blk_set5 hR a b c d e).far (p := ⟨F, 0, none⟩) hne f).far (p := ⟨F, 1, none⟩) hne g, ((blk_far5 hF (Ne.symm hne) a b c d e).set_ 0 f).set_ 1 g,
    fun k hk hf => (Below.heap_setCell _ ⟨F, 1, none⟩ _ _ hf).trans ((Below.heap_setCell _ ⟨F, 0, none⟩ _ _ hf).trans ((Below.heap_setCell _ ⟨R, 4, none⟩ _ _ hk).trans ((Below.heap_setCell _ ⟨R, 3, none⟩ _ _ hk).trans ((Below.heap_setCell _ ⟨R, 2, none⟩ _ _ hk).trans ((Below.heap_setCell _ ⟨R, 1, none⟩ _ _ hk).trans (Below.heap_setCell _ ⟨R, 0, none⟩ _ _ hk)))))), by simp⟩
theorem ints_far {w W : World} {A : Option Addr} {xs : List Int} {n : Nat} (h : Ints w A xs) (hA : ∀ a, A = some a → n ≤ a.block) (hs : w.heap.size ≤ W.heap.size) (hk : ∀ k, n ≤ k → W.heap[k]? = w.heap[k]?) : Ints W A xs := h.keep hs (fun a ha => hk _ (hA a ha))
theorem own_lob {w : World} {n l c : Nat} {A : Option Addr} {xs : List Int} (h : Own w n (.slice A l c) xs) : ∀ a, A = some a → n ≤ a.block := fun a ha => (h.lt a.block (by rw [ha]; rfl)).1
theorem own_n {w : World} {n l c : Nat} {A : Option Addr} {xs : List Int} (h : Own w n (.slice A l c) xs) : l = xs.length := by
  obtain ⟨A', c', e, -, -, -⟩ := h.form2
  injection e

section
variable (ws rs : List Int) (ops : List TOp) (A B C : Option Addr) (c d e0 : Nat) (w : World) (hA : Ints w A ws) (hcap : ws.length ≤ c) (hw : I64 ws) (hl : ws.length ≤ 9223372036854775807)
    (hB : Ints w B rs) (hr : I64 rs) (hrl : rs.length ≤ 50000) (hC : Ops w C ops) (hcl : ops.length ≤ 40000) (hin : ∀ op ∈ ops, OpIn op)
include hA hcap hw hl hB hr hrl hC hcl hin

set_option maxRecDepth 100000 in
set_option maxHeartbeats 4000000 in
theorem play_yes (h0 : (rootsF ws rs).1 = 0) : Calls Try.prog 84 #[.agg #[.slice A ws.length c], .slice B rs.length d, .slice C ops.length e0] w (PlayYes (playT ws rs ops) w) := by
  have hx0 : Below w.heap.size w (((w.alloc (.cells #[.slice A ws.length c] 33)).alloc (.cells #[.slice none 0 0, .slice none 0 0, .slice none 0 0, .bool false, .slice none 0 0] 93)).alloc (.cells #[.int .i64 0, .int .i64 0] 36)) := (((Below.refl _ _).alloc (Nat.le_refl _) _).alloc (by simp) _).alloc (by simp; omega) _
  have HX0 := Lib.hid hx0
  have HSE := Lib.hid (rsee_any ws rs A B c d _ (hA.below hx0) hcap hw hl (hB.below hx0) hr (by omega))
  have HB5 : Hid (Blk (((w.alloc (.cells #[.slice A ws.length c] 33)).alloc (.cells #[.slice none 0 0, .slice none 0 0, .slice none 0 0, .bool false, .slice none 0 0] 93)).alloc (.cells #[.int .i64 0, .int .i64 0] 36)) w.heap.size 33 #[.slice A ws.length c]) := ((Blk.new w 33 #[.slice A ws.length c]).alloc _).alloc _
  have HB6 : Hid (Blk (((w.alloc (.cells #[.slice A ws.length c] 33)).alloc (.cells #[.slice none 0 0, .slice none 0 0, .slice none 0 0, .bool false, .slice none 0 0] 93)).alloc (.cells #[.int .i64 0, .int .i64 0] 36)) (w.heap.size + 1) 93 #[.slice none 0 0, .slice none 0 0, .slice none 0 0, .bool false, .slice none 0 0]) := by
    have := (Blk.new (w.alloc (.cells #[.slice A ws.length c] 33)) 93 #[.slice none 0 0, .slice none 0 0, .slice none 0 0, .bool false, .slice none 0 0]).alloc (.cells #[.int .i64 0, .int .i64 0] 36)
    rw [World.size_alloc] at this; exact this
  have HB7 : Hid (Blk (((w.alloc (.cells #[.slice A ws.length c] 33)).alloc (.cells #[.slice none 0 0, .slice none 0 0, .slice none 0 0, .bool false, .slice none 0 0] 93)).alloc (.cells #[.int .i64 0, .int .i64 0] 36)) (w.heap.size + 1 + 1) 36 #[.int .i64 0, .int .i64 0]) := by
    have := Blk.new ((w.alloc (.cells #[.slice A ws.length c] 33)).alloc (.cells #[.slice none 0 0, .slice none 0 0, .slice none 0 0, .bool false, .slice none 0 0] 93)) 36 #[.int .i64 0, .int .i64 0]
    rw [World.size_alloc, World.size_alloc] at this; exact this
  have HA := Lib.hid hA; have HB := Lib.hid hB; have HC := Lib.hid hC; have HW := Lib.hid hw; have HIN := Lib.hid hin
  have hrz := rootsF_zero h0
  have HOK := Lib.hid hrz.1; have HFT := Lib.hid hrz.2.2.2.1
  have hq1 := hrz.1.most
  have hq0 := hrz.1.two
  have H0 := Lib.hid h0
  have hmm := @run_makeMap Try.prog
  clear hx0 hA hw hB hr h0 hC hin hrz
  generalize hS : playT ws rs ops = S
  have HS := Lib.hid hS
  clear hS
  go_enter Try.func84, Try.ntmps84
  go_wp2_with fail
  generalize (((w.alloc (.cells #[.slice A ws.length c] 33)).alloc (.cells #[.slice none 0 0, .slice none 0 0, .slice none 0 0, .bool false, .slice none 0 0] 93)).alloc (.cells #[.int .i64 0, .int .i64 0] 36)) = w1 at *
  refine HSE.out.mono ?_
  rintro e w2 ⟨hb2, h⟩
  rcases h with ⟨h0, rfl⟩ | ⟨h0, g, rfl, -⟩
  · exact absurd H0.out h0
  have hx3 := hb2.alloc hb2.size (.cells #[.int .i64 0, .int .i64 0] 36)
  have HX3 := Lib.hid (HX0.out.trans (hx3.mono HX0.out.size))
  have HB25 := Lib.hid (HB5.out.below hx3 HB5.out.lt); have HB26 := Lib.hid (HB6.out.below hx3 HB6.out.lt); have HB27 := Lib.hid (HB7.out.below hx3 HB7.out.lt)
  have hz2 : w.heap.size + 1 + 1 < w2.heap.size := Nat.lt_of_lt_of_le HB7.out.lt hb2.size
  obtain ⟨x1, x2, x3⟩ := HB25.out.f1
  have HFZ := Lib.hid (Blk.new w2 36 #[.int .i64 0, .int .i64 0])
  clear hb2 h0 hx3 HX0 HB5 HB6 HB7 HSE
  unfold fltV
  go_wp2_with fail
  generalize (w2.alloc (.cells #[.int .i64 0, .int .i64 0] 36)) = w3 at *
  clear x1 x2 x3
  have hz3 : w.heap.size + 1 + 1 < w3.heap.size := HB27.out.lt
  have HF3 : Hid (Blk w3 w2.heap.size 36 #[.int .i64 0, .int .i64 0]) := HFZ.out
  refine (clone_any ws A c w3 (HA.out.below HX3.out) (by omega)).mono ?_
  rintro e w4 ⟨hb4, A4, c4, rfl, ho4⟩
  have HX4 := Lib.hid (HX3.out.trans (hb4.mono HX3.out.size))
  have HO4 := Lib.hid ho4
  have hs34 := hb4.size
  have HB46 := Lib.hid (HB26.out.below hb4 HB26.out.lt); have HB47 := Lib.hid (HB27.out.below hb4 HB27.out.lt)
  clear hb4 ho4
  go_wp2_with fail
  refine (clone_any rs B d w4 (HB.out.below HX4.out) (by omega)).mono ?_
  rintro e w5 ⟨hb5, B5, d5, rfl, ho5⟩
  have HX5 := Lib.hid (HX4.out.trans (hb5.mono HX4.out.size))
  have HO5 := Lib.hid ho5
  have HO45 := Lib.hid (HO4.out.below hb5 (fun k hk => (HO4.out.lt k hk).2))
  have hs45 := hb5.size
  have HB56 := Lib.hid (HB46.out.below hb5 HB46.out.lt); have HB57 := Lib.hid (HB47.out.below hb5 HB47.out.lt)
  clear hb5 ho5 HB26 HB27 HB46 HB47
  have hx6 : Below w5.heap.size w5 ((w5.alloc (.map #[] 0)).alloc (.cells #[.slice A4 ws.length c4, .slice B5 rs.length d5, .map (some w5.heap.size)] 171)) := ((Below.refl _ _).alloc (Nat.le_refl _) _).alloc (by simp) _
  have HX6 := Lib.hid (HX5.out.trans (hx6.mono HX5.out.size))
  have HB66 := Lib.hid (HB56.out.below hx6 HB56.out.lt); have HB67 := Lib.hid (HB57.out.below hx6 HB57.out.lt)
  have hpx : PlX ((w5.alloc (.map #[] 0)).alloc (.cells #[.slice A4 ws.length c4, .slice B5 rs.length d5, .map (some w5.heap.size)] 171)) w3.heap.size (w5.heap.size + 1) w5.heap.size ⟨ws, rs, shades (fun _ => 0) (rs.take 0)⟩ A4 c4 B5 d5 := by
    refine ⟨?_, ((own_fst HO45.out).1.below hx6), (own_fst HO45.out).2, ?_, fun a k ha hk => ?_, (col_new w5).alloc _, ⟨by omega, by omega, by omega⟩, start_take HOK.out HFT.out 0, HW.out, by dsimp only; omega, fun a ha => (HO4.out.lt a.block (by rw [ha]; rfl)).1⟩
    · have := Blk.new (w5.alloc (.map #[] 0)) 171 #[.slice A4 ws.length c4, .slice B5 rs.length d5, .map (some w5.heap.size)]
      rw [World.size_alloc] at this; exact this
    · exact ((HO5.out.alloc _).alloc _).mono (by omega)
    · have h1 : (Value.slice A4 ws.length c4).ownBlock = some a.block := by rw [ha]; rfl
      have h2 := (HO4.out.lt _ h1).2
      have h3 := (HO5.out.lt _ hk).1
      omega
  have HPX := Lib.hid hpx
  clear hx6 hpx HB56 HB57
  have HZ6 : Hid (((w5.alloc (.map #[] 0)).alloc (.cells #[.slice A4 ws.length c4, .slice B5 rs.length d5, .map (some w5.heap.size)] 171)).heap.size = w5.heap.size + 1 + 1) := by show _ = _; simp
  go_wp2_with fail
  clear hmm
  generalize ((w5.alloc (.map #[] 0)).alloc (.cells #[.slice A4 ws.length c4, .slice B5 rs.length d5, .map (some w5.heap.size)] 171)) = w6 at *
  clear HZ6 HO4 HO5 HO45
  have hPB : w.heap.size ≤ w3.heap.size := HX3.out.size
  generalize w5.heap.size + 1 = P at *
  generalize w5.heap.size = M at *
  go_loopw [40] (fun i wr => ∃ j : Nat, i = .int .i64 (j : Int) ∧ j ≤ rs.length ∧ PlX wr w3.heap.size P M ⟨ws, rs, shades (fun _ => 0) (rs.take j)⟩ A4 c4 B5 d5 ∧ Below w3.heap.size w6 wr) (fun i _ => rs.length - (intOf i).toNat)
  case atStart => exact ⟨0, rfl, Nat.zero_le _, HPX.out, Below.refl _ _⟩
  case round =>
    obtain ⟨j, rfl, hj, hpx, hbw⟩ := hrel
    have HPJ := Lib.hid hpx; have HBW := Lib.hid hbw
    have HXW := Lib.hid (HX6.out.trans (hbw.mono hPB))
    clear hpx hbw
    by_cases hjl : j < rs.length
    · obtain ⟨b5, o5, rfl, -, r5⟩ := (HB.out.below HXW.out) (by omega)
      have e1 := r5 j hjl
      have hfj := HFT.out (nth rs j) (by rw [nth_eq hjl]; exact List.getElem_mem _)
      obtain ⟨i1, i2⟩ := fit_in hfj
      have HSH := Lib.hid (shade_any P M _ _ _ (nth rs j) wr HPJ.out.blk HPJ.out.col i1 i2)
      have HTK := Lib.hid (shades_take (col := fun _ => 0) hjl)
      have HSJ := Lib.hid (start_take HOK.out HFT.out (j + 1))
      clear r5 hfj
      generalize nth rs j = o at *
      go_wp2_with fail
      refine HSH.out.mono ?_
      rintro e w7 ⟨rfl, hm7, ht7⟩
      have HP7 : Hid (PlX w7 w3.heap.size P M ⟨ws, rs, shades (fun _ => 0) (rs.take (j + 1))⟩ A4 c4 B5 d5) := by
        show PlX _ _ _ _ _ _ _ _ _
        rw [← HTK.out] at hm7
        exact HPJ.out.shade hm7 ht7 HSJ.out
      have HB7 := Lib.hid (HBW.out.trans (turned_base ht7 HPJ.out.lo.2.1 HPJ.out.base_le))
      clear hm7 ht7 e1
      go_wp2_with fail
      go_roundw
      case rel => exact ⟨j + 1, by go_num, by omega, HP7.out, HB7.out⟩
      case measure => simp [intOf]; omega
    · obtain rfl : j = rs.length := by omega
      have hpl := HPJ.out
      rw [List.take_length] at hpl
      have HPL : Hid (PlAt wr w3.heap.size P M (startT ws rs)) := ⟨_, _, _, _, hpl⟩
      clear hpl HPJ HPX
      go_wp2_with fail
      generalize wr = w7 at *
      go_loopw [50] (fun i wr => ∃ j : Nat, i = .int .i64 (j : Int) ∧ j ≤ ops.length ∧ PlAt wr w3.heap.size P M ((ops.take j).foldl doT (startT ws rs)) ∧ Below w3.heap.size w6 wr) (fun i _ => ops.length - (intOf i).toNat)
      case atStart => exact ⟨0, rfl, Nat.zero_le _, HPL.out, HBW.out⟩
      case round =>
        obtain ⟨j, rfl, hj, hpl, hbw⟩ := hrel
        have HPJ := Lib.hid hpl; have HBJ := Lib.hid hbw
        have HXJ := Lib.hid (HX6.out.trans (hbw.mono hPB))
        clear hpl hbw
        by_cases hjl : j < ops.length
        · obtain ⟨b5, o5, rfl, hb5, r5⟩ := (HC.out.below HXJ.out) (by omega)
          have g0 := r5 j hjl 0 (by omega)
          have g1 := r5 j hjl 1 (by omega)
          have g2 := r5 j hjl 2 (by omega)
          have g3 := r5 j hjl 3 (by omega)
          have g4 := r5 j hjl 4 (by omega)
          have g5 := r5 j hjl 5 (by omega)
          have HST := Lib.hid (play_step ws rs hjl)
          have HI := Lib.hid (HIN.out _ (List.getElem_mem hjl))
          generalize ops[j] = op at *
          simp only [opL, nth, List.getD_cons_zero, List.getD_cons_succ, Nat.add_zero] at g0 g1 g2 g3 g4 g5
          clear r5
          go_wp2_with fail
          have hx8 : Below wr.heap.size wr (wr.alloc (.cells #[.int .i64 op.k, .int .i64 op.o, .int .i64 op.a, .int .i64 op.w, .int .i64 op.f, .int .i64 op.s] 100)) := (Below.refl _ _).alloc (Nat.le_refl _) _
          have hpj2 : PlAt (wr.alloc (.cells #[.int .i64 op.k, .int .i64 op.o, .int .i64 op.a, .int .i64 op.w, .int .i64 op.f, .int .i64 op.s] 100)) w3.heap.size P M ((ops.take j).foldl doT (startT ws rs)) := by
            obtain ⟨A9, c9, B9, d9, h9⟩ := HPJ.out
            exact ⟨_, _, _, _, h9.move hx8⟩
          have hbl : w3.heap.size ≤ wr.heap.size := by
            obtain ⟨A9, c9, B9, d9, h9⟩ := HPJ.out
            exact h9.base_le
          have hop := op_tri _ op _ _ _ _ hpj2 HI.out (by have := fold_len (ops.take j) (startT ws rs); have h8 : (startT ws rs).rs.length = rs.length := rfl; have h9 := List.length_take_le j ops; omega)
          have HOP := Lib.hid hop
          have HB8 := Lib.hid (HBJ.out.trans (hx8.mono hbl))
          clear hx8 hpj2 hop
          unfold opV at HOP
          refine HOP.out.mono ?_
          rintro e w8 ⟨rfl, hp8, hb8⟩
          have HP8 : Hid (PlAt w8 w3.heap.size P M ((ops.take (j + 1)).foldl doT (startT ws rs))) := by
            show PlAt _ _ _ _ _
            rw [HST.out]; exact hp8
          have HB9 := Lib.hid (HB8.out.trans hb8)
          clear hp8 hb8 g0 g1 g2 g3 g4 g5 HOP
          go_wp2_with fail
          go_roundw
          case rel => exact ⟨j + 1, by go_num, by omega, HP8.out, HB9.out⟩
          case measure => simp [intOf]; omega
        · obtain rfl : j = ops.length := by omega
          have hpl := HPJ.out
          rw [List.take_length] at hpl
          have HPS : Hid (PlAt wr w3.heap.size P M S) := by
            show PlAt _ _ _ _ _
            rw [← HS.out]; exact hpl
          clear hpl HPJ HPL HBW
          obtain ⟨A9, c9, B9, d9, hx⟩ := HPS.out
          have HX := Lib.hid hx
          obtain ⟨x1, x2, x3, x4, x5, x6, x7⟩ := hx.blk.f3
          clear hx
          go_wp2_with fail
          go_region
          have hx8 : Below wr.heap.size wr ((wr.alloc (.cells #[.slice A9 S.ws.length c9, .slice B9 S.rs.length d9, .slice none 0 0, .bool true, .slice none 0 0] 93)).drew) := ((Below.refl _ _).alloc (Nat.le_refl _) _).drew
          have HX8 := Lib.hid (HX.out.move hx8)
          have HB8 := Lib.hid (HBJ.out.trans (hx8.mono HX.out.base_le))
          have HQ8 : Hid (Blk ((wr.alloc (.cells #[.slice A9 S.ws.length c9, .slice B9 S.rs.length d9, .slice none 0 0, .bool true, .slice none 0 0] 93)).drew) wr.heap.size 93 #[.slice A9 S.ws.length c9, .slice B9 S.rs.length d9, .slice none 0 0, .bool true, .slice none 0 0]) := Blk.new wr 93 _
          have hQb : w3.heap.size ≤ wr.heap.size := HX.out.base_le
          clear hx8 x1 x2 x3 x4 x5 x6 x7
          generalize ((wr.alloc (.cells #[.slice A9 S.ws.length c9, .slice B9 S.rs.length d9, .slice none 0 0, .bool true, .slice none 0 0] 93)).drew) = w8 at *
          have HVW := Lib.hid (view_any S.ws P A9 c9 _ _ w8 HX8.out.blk HX8.out.row HX8.out.cap HX8.out.tok.ok HX8.out.i64)
          go_wp2_with fail
          refine HVW.out.mono ?_
          rintro e w9 ⟨gv, rfl, hv9, hb9⟩
          have HX9 := Lib.hid (HX8.out.move hb9)
          have HB9 := Lib.hid (HB8.out.trans (hb9.mono HX8.out.base_le))
          have HQ9 := Lib.hid (HQ8.out.below hb9 HQ8.out.lt)
          generalize hQ : wr.heap.size = Q at *
          have HQE := Lib.hid hQ
          have hQ9 : Q < w9.heap.size := HQ9.out.lt
          obtain ⟨b', o', c', M', A', oc, hblk, hrow, hlt, hord, hgl⟩ := view_order hv9
          obtain ⟨v1, v2, v3, v4, v5, v6, v7⟩ := hblk.f3
          have HORD := Lib.hid hord
          have HPQ : P ≠ Q := blk_ne HX9.out.blk HQ9.out (by decide)
          have HMQ : ¬ M = Q := fun e => blk_ne_map HQ9.out HX9.out.col e.symm
          have hpl := places_le S.ws
          have hml := HX9.out.tok.ok.most
          have HOUT : Hid (OutAt w9 w9 Q S A9 c9 B9 d9 ((places S.ws).take 0) ((places S.ws).take 0) ((places S.ws).take 0) none 0 0 true none 0 0) := ⟨HQ9.out, Own.nil _ _, Own.nil _ _, (fun q h => nomatch h), rfl, Turned.refl _ _⟩
          clear hb9 hv9 hblk hrow hord HVW HX8 HB8 HQ8 HX hQ
          go_wp2_with fail
          clear v1 v2 v3 v4 v5 v6 v7
          go_loopw [73] (fun i wr => ∃ (k : Nat) (C8 : Option Addr) (nc cc : Nat) (dn : Bool) (E8 : Option Addr) (ne ce : Nat), i = .int .i64 (k : Int) ∧ k ≤ (places S.ws).length ∧ OutAt w9 wr Q S A9 c9 B9 d9 ((places S.ws).take k) ((places S.ws).take k) ((places S.ws).take k) C8 nc cc dn E8 ne ce) (fun i _ => (places S.ws).length - (intOf i).toNat)
          case atStart => exact ⟨0, none, 0, 0, true, none, 0, 0, rfl, Nat.zero_le _, HOUT.out⟩
          case round =>
            obtain ⟨k, C8, nc, cc, dn, E8, ne, ce, rfl, hk, hout⟩ := hrel
            have HO8 := Lib.hid hout
            have hq8 := hout.blk
            obtain ⟨q1, q2, q3, q4, q5, f1, f2, f3, f4, f5, ql⟩ := hq8.f5
            have HPW := Lib.hid (hout.turn.blk HX9.out.blk HPQ)
            have HMW := Lib.hid (HX9.out.col.turn hout.turn HMQ)
            have hws := hout.turn.size
            clear hq8
            by_cases hkl : k < (places S.ws).length
            · obtain ⟨bo, oo, rfl, hbo, hro⟩ := HORD.out (by rw [ups_len]; omega)
              have e0 := hro k (by rw [ups_len]; exact hkl)
              have e1 := (World.cell?_of_block (a := ⟨bo, oo + k, none⟩) (hout.turn.block bo hbo (row_ne_blk5 e0 HQ9.out))).trans e0
              rw [ups_nth hkl] at e1
              have htk : (places S.ws).take (k + 1) = (places S.ws).take k ++ [(places S.ws).getD k 0] := by
                rw [List.take_succ_eq_append_getElem hkl]; simp [List.getD, hkl]
              have HTK := Lib.hid htk
              have hpm : (places S.ws).getD k 0 ∈ places S.ws := by simp [List.getD, hkl]
              have hpw := places_mem hpm
              have htl := List.length_take_le k (places S.ws)
              clear hro htk hout
              generalize (places S.ws).getD k 0 = p at *
              obtain ⟨x1, x2, x3, x4, x5, x6, x7⟩ := HPW.out.f3
              have hp2 : p ≤ 2000 := by omega
              have hrun := HMW.out.get p (by omega)
              have hrund : (Instr.lookup 110 (.map (some M)) (.int .i64 (p : Int)) false).run Try.prog wr.drew = .ok (.int .i64 (S.col p)) wr.drew := (HMW.out.drewN 1).get p (by omega)
              have hlx : (S.col p == S.col p) = true := by simp
              have hlj : ((((places S.ws).take k).map S.col)).length + [S.col p].length ≤ 1000000000 := by simp; omega
              have hzd : w9.heap.size ≤ ((wr.alloc (.cells #[.int .i64 (S.col p)] 3)).drew).heap.size := by show _ ≤ (wr.alloc _).heap.size; rw [World.size_alloc]; omega
              have HCD : Hid (Own ((wr.alloc (.cells #[.int .i64 (S.col p)] 3)).drew) w9.heap.size (.slice C8 nc cc) (((places S.ws).take k).map S.col)) := (HO8.out.cols.alloc _).drewN 1
              have HYD : Hid (Ints ((wr.alloc (.cells #[.int .i64 (S.col p)] 3)).drew) (some ⟨wr.heap.size, 0, none⟩) [S.col p]) := (ints_new wr [S.col p]).drewN 1
              have hpw1 := hpw.1
              clear hpm hpw
              go_wp2_with fail
              have HBD : Hid (Below wr.heap.size wr ((wr.alloc (.cells #[.int .i64 (S.col p)] 3)).drew)) := ((Below.refl _ _).alloc (Nat.le_refl _) _).drew
              go_region_law (first
                | (refine step_joinM rfl _ _ rfl w9.heap.size (.slice C8 nc cc) (((places S.ws).take k).map S.col) rfl HCD.out (some ⟨wr.heap.size, 0, none⟩) 1 [S.col p] rfl HYD.out hlj hzd ?_; intro C10 n10 c10 w10 hown10 hgr10 hat10; have hpc := HO8.out.pushC hQ9 HBD.out hown10 hgr10 hat10; have hq10 := hpc.1; obtain ⟨r1, r2, r3, r4, r5, s1, s2, s3, s4, s5, sl⟩ := hq10.f5))
              all_goals
                refine open_world2 (fun W => OutAt w9 W Q S A9 c9 B9 d9 ((places S.ws).take k ++ [p]) ((places S.ws).take k) ((places S.ws).take k) C10 n10 c10 dn E8 ne ce) hpc.2 ?_
                rintro w11 ho11
                have HO11 := Lib.hid ho11
                have hq11 := ho11.blk
                have HP11 := Lib.hid (ho11.turn.blk HX9.out.blk HPQ)
                have HM11 := Lib.hid (HX9.out.col.turn ho11.turn HMQ)
                have hz11 := ho11.turn.size
                clear hpc hq10 r1 r2 r3 r4 r5 s1 s2 s3 s4 s5 sl q1 q2 q3 q4 q5 f1 f2 f3 f4 f5 ql x1 x2 x3 x4 x5 x6 x7 e1 hrun hrund hown10 hgr10 hat10 ho11 HO8 HPW HMW HCD HYD HBD hlj hzd hlx
                obtain ⟨q1, q2, q3, q4, q5, f1, f2, f3, f4, f5, ql⟩ := hq11.f5
                obtain ⟨x1, x2, x3, x4, x5, x6, x7⟩ := HP11.out.f3
                have hrun := HM11.out.get p (by omega)
                clear hq11
                by_cases h1 : S.col p = 1
                · have HF := Lib.hid ((HO11.out.grey (p := p) hQ9 h1).black (p := p) (by omega))
                  rw [← HTK.out] at HF
                  rw [h1] at hrun
                  clear h1
                  go_wp2_with fail
                  go_roundw
                  case rel => exact ⟨k + 1, _, _, _, _, _, _, _, by go_num, by omega, HF.out⟩
                  case measure => simp [intOf]; omega
                by_cases h2 : S.col p = 0
                · have HF := Lib.hid (fun (W w12 : World) (X : Option Addr) (n kk : Nat) hb hown hgr hat => (HO11.out.white (p := p) h1).pushE (W := W) (w10 := w12) (X := X) (n := n) (k := kk) (p := p) hQ9 hb h2 hown hgr hat)
                  rw [← HTK.out] at HF
                  rw [h2] at hrun
                  have hlj : (whites S.col ((places S.ws).take k)).length + [2 * (p : Int)].length ≤ 1000000000 := by have := whites_len S.col ((places S.ws).take k); simp; omega
                  have hzd : w9.heap.size ≤ (w11.alloc (.cells #[.int .i64 (2 * (p : Int))] 3)).heap.size := by rw [World.size_alloc]; omega
                  have HCD : Hid (Own (w11.alloc (.cells #[.int .i64 (2 * (p : Int))] 3)) w9.heap.size (.slice E8 ne ce) (whites S.col ((places S.ws).take k))) := HO11.out.wh.alloc _
                  have HYD : Hid (Ints (w11.alloc (.cells #[.int .i64 (2 * (p : Int))] 3)) (some ⟨w11.heap.size, 0, none⟩) [2 * (p : Int)]) := ints_new w11 [2 * (p : Int)]
                  have HBD : Hid (Below w11.heap.size w11 (w11.alloc (.cells #[.int .i64 (2 * (p : Int))] 3))) := (Below.refl _ _).alloc (Nat.le_refl _) _
                  clear h1 h2
                  go_wp2_with (at_builtin; refine wpList_joinM rfl _ _ rfl w9.heap.size (.slice E8 ne ce) (whites S.col ((places S.ws).take k)) rfl HCD.out (some ⟨w11.heap.size, 0, none⟩) 1 [2 * (p : Int)] rfl HYD.out hlj hzd ?_; intro C12 n12 c12 w12 hown12 hgr12 hat12; have hpc := HF.out _ _ _ _ _ HBD.out hown12 hgr12 hat12; have HPC := Lib.hid hpc.2; have hq12 := hpc.1; obtain ⟨r1, r2, r3, r4, r5, s1, s2, s3, s4, s5, sl⟩ := hq12.f5; clear hpc hq12 hown12 hgr12 hat12)
                  go_roundw
                  case rel => exact ⟨k + 1, _, _, _, _, _, _, _, by go_num, by omega, HPC.out⟩
                  case measure => simp [intOf]; omega
                · have HF := Lib.hid ((HO11.out.white (p := p) h1).black (p := p) h2)
                  rw [← HTK.out] at HF
                  have hb1 : (S.col p == 1) = false := by simpa using h1
                  have hb2 : (S.col p == 0) = false := by simpa using h2
                  clear h1 h2
                  generalize S.col p = cc9 at *
                  go_wp2_with fail
                  go_roundw
                  case rel => exact ⟨k + 1, _, _, _, _, _, _, _, by go_num, by omega, HF.out⟩
                  case measure => simp [intOf]; omega
            · obtain rfl : k = (places S.ws).length := by omega
              have hout2 := HO8.out
              rw [List.take_length] at hout2
              have HBF := Lib.hid (HB9.out.trans (hout2.turn.below (by omega) (fun k hk e => by omega)))
              have HR6 := Lib.hid (HB66.out.below HBF.out (by omega)); have HR7 := Lib.hid (HB67.out.below HBF.out (by omega))
              have HXF := Lib.hid (HX6.out.trans (HBF.out.mono hPB))
              have HIA := Lib.hid (show Ints wr A9 S.ws from HX9.out.row.keep hws (fun a ha => by
                obtain ⟨b, o, e, hlt9, hr9⟩ := HX9.out.row (by have := HX9.out.tok.ok.two; omega)
                rw [ha] at e; cases e
                exact hout2.turn.block b hlt9 (row_ne_blk5 (by have := hr9 0 (by have := HX9.out.tok.ok.two; omega); exact this) HQ9.out)))
              have HIB := Lib.hid (hout2.turn.own HX9.out.own (fun q hq e => own_ne_blk HX9.out.own HQ9.out (by decide) (by rw [hq, e])))
              have HF9 := Lib.hid hout2
              have hnc := own_n hout2.cols
              have hne := own_n hout2.wh
              rw [List.length_map] at hnc
              obtain ⟨a1, a2, a3, a4, a5, b1, b2, b3, b4, b5, al⟩ := HR6.out.f5
              obtain ⟨m1, m2, m3, m4, m5⟩ := HR7.out.f2
              have hdn : dn = doneB S := hout2.done
              have hcl2 : (colsL S).length = (places S.ws).length := by unfold colsL; rw [List.length_map]
              have hzz : w2.heap.size < w3.heap.size := HF3.out.lt
              have hn1 : ¬ w.heap.size + 1 = Q := by omega
              have hn2 : ¬ w.heap.size + 1 + 1 = Q := by omega
              have hn3 : ¬ Q = w.heap.size + 1 := by omega
              have hn4 : ¬ Q = w.heap.size + 1 + 1 := by omega
              have hn5 : ¬ w.heap.size + 1 + 1 = w.heap.size + 1 := by omega
              have hn6 : ¬ w.heap.size + 1 = w.heap.size + 1 + 1 := by omega
              clear hout hout2
              cases hd : doneB S
              · have hfl : freedL S = [] := by unfold freedL; rw [hd]; rfl
                rw [hd] at hdn
                subst hdn
                have HFL := Lib.hid hfl; have HD := Lib.hid hd; have HNC := Lib.hid hnc; have HCL := Lib.hid hcl2
                have h2s := two_stores0 (HXF.out.setCell (p := ⟨Q, 4, none⟩) (by dsimp only; omega) (.slice none 0 0)) (HR6.out.far (p := ⟨Q, 4, none⟩) hn1 (.slice none 0 0)) (HR7.out.far (p := ⟨Q, 4, none⟩) hn2 (.slice none 0 0)) (by omega) (by omega) hn6 (.slice A9 S.ws.length c9) (.slice B9 S.rs.length d9) (.slice C8 nc cc) (.bool false) (.slice none 0 0) (.int .i64 0) (.int .i64 0)
                have H2S := Lib.hid h2s
                clear hfl hd hnc hne hcl2 h2s
                go_wp2_with fail
                have h2s := H2S.out
                refine open_world2 (fun W => Below w.heap.size w W ∧ Blk W (w.heap.size + 1) 93 #[.slice A9 S.ws.length c9, .slice B9 S.rs.length d9, .slice C8 nc cc, .bool false, .slice none 0 0] ∧ Blk W (w.heap.size + 1 + 1) 36 #[.int .i64 0, .int .i64 0] ∧ (∀ k, k ≠ w.heap.size + 1 → k ≠ w.heap.size + 1 + 1 → W.heap[k]? = (wr.setCell ⟨Q, 4, none⟩ (.slice none 0 0)).heap[k]?) ∧ (wr.setCell ⟨Q, 4, none⟩ (.slice none 0 0)).heap.size ≤ W.heap.size) h2s ?_
                rintro W ⟨hbW, hqW, hfW, hkW, hsW⟩
                obtain ⟨u1, u2, u3, u4, u5, -⟩ := hqW.f5
                obtain ⟨t1, t2, -⟩ := hfW.f2
                have hsW2 : wr.heap.size ≤ W.heap.size := by simpa using hsW
                have hia : Ints (wr.setCell ⟨Q, 4, none⟩ (.slice none 0 0)) A9 S.ws := HIA.out.keep (by simp) (fun a ha => Below.heap_setCell _ _ _ _ (by
                  obtain ⟨b, o, e, hlt9, hr9⟩ := HIA.out (by have := HX9.out.tok.ok.two; omega)
                  rw [ha] at e; cases e
                  exact row_ne_blk5 (hr9 0 (by have := HX9.out.tok.ok.two; omega)) HF9.out.blk))
                have hib := HIB.out.setCell ⟨Q, 4, none⟩ (own_ne_blk HIB.out HF9.out.blk (by decide)) (.slice none 0 0)
                have hic := HF9.out.cols.setCell ⟨Q, 4, none⟩ (own_ne_blk HF9.out.cols HF9.out.blk (by decide)) (.slice none 0 0)
                refine bodyPost_ret (v := .tuple #[.agg #[.slice A9 S.ws.length c9, .slice B9 S.rs.length d9, .slice C8 nc cc, .bool false, .slice none 0 0], .agg #[.int .i64 0, .int .i64 0]]) (by simp [results, Try.results84, go_sem, u1, u2, u3, u4, u5, t1, t2]) rfl ⟨hbW, A9, c9, B9, d9, C8, cc, none, 0, ?_, ?_, HX9.out.cap, ?_, ?_, ?_⟩
                · rw [HCL.out, HFL.out, ← HNC.out, HD.out]; rfl
                · exact ints_far hia HX9.out.lob hsW (fun k hk => hkW k (by omega) (by omega))
                · exact ints_far (own_fst hib).1 (own_lob hib) hsW (fun k hk => hkW k (by omega) (by omega))
                · exact ints_far (own_fst hic).1 (own_lob hic) hsW (fun k hk => hkW k (by omega) (by omega))
                · rw [HFL.out]; exact Ints.nil _ _
              · have hfl : freedL S = whites S.col (places S.ws) := by unfold freedL; rw [hd]; rfl
                rw [hd] at hdn
                subst hdn
                have HFL := Lib.hid hfl; have HD := Lib.hid hd; have HNC := Lib.hid hnc; have HNE := Lib.hid hne; have HCL := Lib.hid hcl2
                have h2s := two_stores0 HXF.out HR6.out HR7.out (by omega) (by omega) hn6 (.slice A9 S.ws.length c9) (.slice B9 S.rs.length d9) (.slice C8 nc cc) (.bool true) (.slice E8 ne ce) (.int .i64 0) (.int .i64 0)
                have H2S := Lib.hid h2s
                clear hfl hd hnc hne hcl2 h2s
                go_wp2_with fail
                have h2s := H2S.out
                refine open_world2 (fun W => Below w.heap.size w W ∧ Blk W (w.heap.size + 1) 93 #[.slice A9 S.ws.length c9, .slice B9 S.rs.length d9, .slice C8 nc cc, .bool true, .slice E8 ne ce] ∧ Blk W (w.heap.size + 1 + 1) 36 #[.int .i64 0, .int .i64 0] ∧ (∀ k, k ≠ w.heap.size + 1 → k ≠ w.heap.size + 1 + 1 → W.heap[k]? = wr.heap[k]?) ∧ wr.heap.size ≤ W.heap.size) h2s ?_
                rintro W ⟨hbW, hqW, hfW, hkW, hsW⟩
                obtain ⟨u1, u2, u3, u4, u5, -⟩ := hqW.f5
                obtain ⟨t1, t2, -⟩ := hfW.f2
                refine bodyPost_ret (v := .tuple #[.agg #[.slice A9 S.ws.length c9, .slice B9 S.rs.length d9, .slice C8 nc cc, .bool true, .slice E8 ne ce], .agg #[.int .i64 0, .int .i64 0]]) (by simp [results, Try.results84, go_sem, u1, u2, u3, u4, u5, t1, t2]) rfl ⟨hbW, A9, c9, B9, d9, C8, cc, E8, ce, ?_, ?_, HX9.out.cap, ?_, ?_, ?_⟩
                · rw [HCL.out, HFL.out, ← HNC.out, ← HNE.out, HD.out]; rfl
                · exact ints_far HIA.out HX9.out.lob hsW (fun k hk => hkW k (by omega) (by omega))
                · exact ints_far (own_fst HIB.out).1 (own_lob HIB.out) hsW (fun k hk => hkW k (by omega) (by omega))
                · exact ints_far (own_fst HF9.out.cols).1 (own_lob HF9.out.cols) hsW (fun k hk => hkW k (by omega) (by omega))
                · rw [HFL.out]; exact ints_far (own_fst HF9.out.wh).1 (own_lob HF9.out.wh) hsW (fun k hk => hkW k (by omega) (by omega))
end
end Go.Proofs.Ytjpppdacamhhfaa
