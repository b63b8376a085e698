/- heap.New makes a thing more, or tells what stands against it. Conditions: numbers of 64 bits. -/
import Derived.Test.YtjpppdacamhhfaaHeap1
import Derived.Test.YtjpppdacamhhfaaMem3
namespace Go.Proofs.Ytjpppdacamhhfaa
open Go.RowKit
set_option linter.unusedVariables false

/-- What New gives. -/
def newR (ws : List Int) (cl fm sz : Int) : List Int × Int × Int := if newE ws cl fm sz = 0 then (newW ws cl fm sz, 2 * ws.length, 0) else ([], 0, newE ws cl fm sz)
def newOut (ws : List Int) (cl fm sz : Int) : List Int × Int × Int := if okB ws = true then newR ws cl fm sz else ([], 0, 7)

/-- A heap of the call's own, a number, a code. -/
def HeapOut (r : List Int × Int × Int) (w : World) (e : Ending) (w' : World) : Prop :=
  Below w.heap.size w w' ∧ ∃ A c, e = .returned (.tuple #[.agg #[.slice A r.1.length c], .int .i64 r.2.1, .int .i64 r.2.2]) ∧ Own w' w.heap.size (.slice A r.1.length c) r.1

theorem i64_shl2_or (sz fm : Int) (h1 : 0 ≤ sz) (h2 : sz ≤ 60) (h3 : 0 ≤ fm) (h4 : fm ≤ 2) : bits .or .i64 (sz * 4) fm = 4 * sz + fm := by
  have h : ∀ s : Fin 61, ∀ f : Fin 3, bits .or .i64 ((s.val : Int) * 4) (f.val : Int) = 4 * (s.val : Int) + (f.val : Int) := by decide
  have := h ⟨sz.toNat, by omega⟩ ⟨fm.toNat, by omega⟩
  simp only at this
  rw [show ((sz.toNat : Nat) : Int) = sz from by omega, show ((fm.toNat : Nat) : Int) = fm from by omega] at this
  exact this

theorem newW_len (ws : List Int) (cl fm sz : Int) : (newW ws cl fm sz).length = ws.length + 3 + sz.toNat := by simp [newW]; omega
theorem newW_alt {ws : List Int} (h : 2 ≤ ws.length) (cl fm : Int) (k : Nat) : (ws ++ [cl, nth ws 1, 4 * (k : Int) + fm]).set 1 (nth ws 1 + 1) ++ List.replicate k 0 = newW ws cl fm k := by
  unfold newW
  rw [List.set_append_left _ _ (by omega), Int.toNat_natCast]

theorem heapOut_err {w w' : World} (o e : Int) (hb : Below w.heap.size w w') : HeapOut ([], o, e) w (.returned (.tuple #[.agg #[.slice none 0 0], .int .i64 o, .int .i64 e])) w' :=
  ⟨hb, none, 0, rfl, Own.nil _ _⟩

section
variable (ws : List Int) (A : Option Addr) (c : Nat) (cl fm sz : Int) (w : World) (hA : Ints w A ws) (hcap : ws.length ≤ c) (hw : I64 ws) (hl : ws.length ≤ 9223372036854775807)
    (c1 : -9223372036854775808 ≤ cl) (c2 : cl ≤ 9223372036854775807) (f1 : -9223372036854775808 ≤ fm) (f2 : fm ≤ 9223372036854775807) (s1 : -9223372036854775808 ≤ sz) (s2 : sz ≤ 9223372036854775807)
include hA hcap hw hl c1 c2 f1 f2 s1 s2

set_option maxRecDepth 100000 in
set_option maxHeartbeats 1000000 in
theorem new_any : Calls Try.prog 46 #[.agg #[.slice A ws.length c], .int .i64 cl, .int .i64 fm, .int .i64 sz] w (HeapOut (newOut ws cl fm sz) w) := by
  have HA := Lib.hid ((hA.alloc (.cells #[.slice A ws.length c] 33)).alloc (.cells #[.slice none 0 0] 33)); clear hA
  have HW := Lib.hid hw; clear hw
  have hb0 : Blk ((w.alloc (.cells #[.slice A ws.length c] 33)).alloc (.cells #[.slice none 0 0] 33)) w.heap.size 33 #[.slice A ws.length c] := (Blk.new _ _ _).alloc _
  have hr0 : Blk ((w.alloc (.cells #[.slice A ws.length c] 33)).alloc (.cells #[.slice none 0 0] 33)) (w.heap.size + 1) 33 #[.slice none 0 0] := by
    have := Blk.new (w.alloc (.cells #[.slice A ws.length c] 33)) 33 #[.slice none 0 0]
    simpa using this
  have HB0 := Lib.hid hb0; have HR0 := Lib.hid hr0; clear hb0 hr0
  have HL0 : Hid (Below w.heap.size w ((w.alloc (.cells #[.slice A ws.length c] 33)).alloc (.cells #[.slice none 0 0] 33))) := ((Below.refl _ _).alloc (Nat.le_refl _) _).alloc (by simp) _
  go_enter Try.func46, Try.ntmps46
  go_wp2_with fail
  refine (look_any ws A c _ HA.out hcap HW.out (by omega)).mono ?_
  rintro e w1 ⟨hb1, h⟩
  have HL1 := Lib.hid (HL0.out.trans (hb1.mono (by simp; omega)))
  have HB1 := Lib.hid (HB0.out.below hb1 HB0.out.lt)
  have HR1 := Lib.hid (HR0.out.below hb1 HR0.out.lt)
  have HA1 := Lib.hid (HA.out.below hb1)
  clear hb1
  obtain ⟨x1, x2, x3⟩ := HB1.out.f1
  obtain ⟨y1, y2, y3⟩ := HR1.out.f1
  rcases h with ⟨h0, rfl⟩ | ⟨h0, g, rfl, hv⟩
  · have HE : Hid (newOut ws cl fm sz = ([], 0, 7)) := by show _ = _; unfold newOut; rw [if_neg (by rw [h0]; decide)]
    clear h0
    go_wp2
    rw [HE.out]
    exact bodyPost_ret (v := .tuple #[.agg #[.slice none 0 0], .int .i64 0, .int .i64 7]) (by simp [results, Try.results46, go_sem, y1]) rfl (heapOut_err _ _ (HL1.out.setCell (by simp) _))
  have HOK := Lib.hid (okB_iff.1 h0)
  have HV := Lib.hid hv
  have HN : Hid (newOut ws cl fm sz = newR ws cl fm sz) := by show _ = _; unfold newOut; rw [if_pos h0]
  clear h0 hv
  by_cases hcl : cl ≠ 0 ∧ isTh ws cl = false
  · have HE : Hid (newOut ws cl fm sz = ([], 0, 3)) := by show _ = _; rw [HN.out]; unfold newR newE; rw [if_pos hcl]; rfl
    obtain ⟨t1, t2⟩ := hcl
    have t1' : (cl != 0) = true := by simpa using t1
    clear t1
    go_wp2_with (go_at_call 95; refine (isv_any HV.out _ (by omega) (by omega)).mono ?_; rintro e w' ⟨rfl, rfl⟩)
    rw [HE.out]
    exact bodyPost_ret (v := .tuple #[.agg #[.slice none 0 0], .int .i64 0, .int .i64 3]) (by simp [results, Try.results46, go_sem, y1]) rfl (heapOut_err _ _ (HL1.out.setCell (by simp) _))
  by_cases hrg : fm < 0 ∨ 2 < fm ∨ sz < 0 ∨ 60 < sz
  · have HE : Hid (newOut ws cl fm sz = ([], 0, 4)) := by show _ = _; rw [HN.out]; unfold newR newE; rw [if_neg hcl, if_pos hrg]; rfl
    have hx : (cl != 0) = false ∨ ((cl != 0) = true ∧ isTh ws cl = true) := by
      cases h : (cl != 0)
      · exact .inl rfl
      · refine .inr ⟨rfl, ?_⟩
        cases h' : isTh ws cl
        · exact absurd ⟨by simpa using h, h'⟩ hcl
        · rfl
    have hr : fm < 0 ∨ (0 ≤ fm ∧ 2 < fm) ∨ (0 ≤ fm ∧ fm ≤ 2 ∧ sz < 0) ∨ (0 ≤ fm ∧ fm ≤ 2 ∧ 0 ≤ sz ∧ 60 < sz) := by omega
    clear hcl hrg
    rcases hx with t1 | ⟨t1, t2⟩ <;> rcases hr with r1 | ⟨r1, r2⟩ | ⟨r1, r2, r3⟩ | ⟨r1, r2, r3, r4⟩
    all_goals
      go_wp2_with (go_at_call 95; refine (isv_any HV.out _ (by omega) (by omega)).mono ?_; rintro e w' ⟨rfl, rfl⟩)
      rw [HE.out]
      exact bodyPost_ret (v := .tuple #[.agg #[.slice none 0 0], .int .i64 0, .int .i64 4]) (by simp [results, Try.results46, go_sem, y1]) rfl (heapOut_err _ _ (HL1.out.setCell (by simp) _))
  obtain ⟨q1, q2⟩ : 2 ≤ ws.length ∧ ws.length ≤ 2000 := ⟨HOK.out.two, HOK.out.most⟩
  obtain ⟨b, o, rfl, hlt, hrow⟩ := HA1.out (by omega)
  have HRW := Lib.hid hrow
  have hw1 := hrow 1 (by omega)
  obtain ⟨q3, q4⟩ : 1 ≤ nth ws 1 ∧ nth ws 1 ≤ 10001 := ⟨HOK.out.w1, HOK.out.w1m⟩
  clear hrow
  have hx : (cl != 0) = false ∨ ((cl != 0) = true ∧ isTh ws cl = true) := by
    cases h : (cl != 0)
    · exact .inl rfl
    · refine .inr ⟨rfl, ?_⟩
      cases h' : isTh ws cl
      · exact absurd ⟨by simpa using h, h'⟩ hcl
      · rfl
  obtain ⟨r1, r2, r3, r4⟩ : 0 ≤ fm ∧ fm ≤ 2 ∧ 0 ≤ sz ∧ sz ≤ 60 := by omega
  by_cases hfull : 2000 < ws.length + 3 + sz ∨ 10000 < nth ws 1
  · have HE : Hid (newOut ws cl fm sz = ([], 0, 6)) := by show _ = _; rw [HN.out]; unfold newR newE; rw [if_neg hcl, if_neg hrg, if_pos hfull]; rfl
    have hf : 2000 < ws.length + 3 + sz ∨ (ws.length + 3 + sz ≤ 2000 ∧ 10000 < nth ws 1) := by omega
    clear hcl hrg hfull
    rcases hx with t1 | ⟨t1, t2⟩ <;> rcases hf with f1 | ⟨f1, f2⟩
    all_goals
      go_wp2_with (go_at_call 95; refine (isv_any HV.out _ (by omega) (by omega)).mono ?_; rintro e w' ⟨rfl, rfl⟩)
      rw [HE.out]
      exact bodyPost_ret (v := .tuple #[.agg #[.slice none 0 0], .int .i64 0, .int .i64 6]) (by simp [results, Try.results46, go_sem, y1]) rfl (heapOut_err _ _ (HL1.out.setCell (by simp) _))
  · have HE : Hid (newOut ws cl fm sz = (newW ws cl fm sz, 2 * (ws.length : Int), 0)) := by
      show _ = _
      rw [HN.out]; unfold newR
      have : newE ws cl fm sz = 0 := by unfold newE; rw [if_neg hcl, if_neg hrg, if_neg hfull]
      rw [if_pos this]
    obtain ⟨f1, f2⟩ : ws.length + 3 + sz ≤ 2000 ∧ nth ws 1 ≤ 10000 := by omega
    clear hcl hrg hfull
    obtain ⟨k, rfl⟩ : ∃ k : Nat, sz = k := ⟨sz.toNat, by omega⟩
    have e1 := i64_shl2_or k fm r3 r4 r1 r2
    have e0 : IntKind.i64.wrap ((k : Int) * 4) = (k : Int) * 4 := IntWalk.i64_in _ (by omega)
    have hI1 : Ints w1.drew (some ⟨b, o, none⟩) ws := fun _ => ⟨b, o, rfl, hlt, HRW.out⟩
    have hI2 : Ints ((w1.alloc (.cells #[.int .i64 cl, .int .i64 (nth ws 1), .int .i64 (4 * (k : Int) + fm)] 3)).drew) (some ⟨b, o, none⟩) ws := Ints.alloc hI1 _
    have hI := Lib.hid hI1
    have hJ := Lib.hid hI2
    clear hI1 hI2
    have hN9 : ws.length ≤ 1000000000 := by omega
    have hz2 : w1.heap.size ≤ (w1.alloc (.cells #[.int .i64 cl, .int .i64 (nth ws 1), .int .i64 (4 * (k : Int) + fm)] 3)).heap.size := by simp
    have hN3 : ws.length + 3 ≤ 1000000000 := by omega
    rcases hx with t1 | ⟨t1, t2⟩
    all_goals
      go_wp2_with (go_at_call 95; refine (isv_any HV.out _ (by omega) (by omega)).mono ?_; rintro e w' ⟨rfl, rfl⟩)
      go_region_held3 (fun w' => w'.cell? ⟨w.heap.size, 0, none⟩ = some (.slice (some ⟨b, o, none⟩) ws.length c) ∧ w'.cell? ⟨b, o + 1, none⟩ = some (.int .i64 (nth ws 1)))
        (first | go_keep | exact hS3 | exact hS2)
        (first
          | (go_at_call 96; refine (clone_any ws _ c w1.drew hI.out hN9).mono ?_; rintro e w2 ⟨hb2, A2, c2, rfl, hown2⟩; have hb12 : Below w1.heap.size w1 w2 := below_of_drew hb2; have hS2 : w2.cell? ⟨w.heap.size, 0, none⟩ = some (.slice (some ⟨b, o, none⟩) ws.length c) ∧ w2.cell? ⟨b, o + 1, none⟩ = some (.int .i64 (nth ws 1)) := ⟨(hb12.cell (p := ⟨w.heap.size, 0, none⟩) x3).trans x1, (hb12.cell (p := ⟨b, o + 1, none⟩) hlt).trans hw1⟩; have HO := Lib.hid (Own.alloc (base := w1.heap.size) hown2 (.cells #[.int .i64 cl, .int .i64 (nth ws 1), .int .i64 (4 * (k : Int) + fm)] 3)); have HJ := Lib.hid (ints_new w2 [cl, nth ws 1, 4 * (k : Int) + fm]); have hbs := hb12.alloc hb12.size (.cells #[.int .i64 cl, .int .i64 (nth ws 1), .int .i64 (4 * (k : Int) + fm)] 3))
          | (go_at_call 96; refine (clone_any ws _ c ((w1.alloc (.cells #[.int .i64 cl, .int .i64 (nth ws 1), .int .i64 (4 * (k : Int) + fm)] 3)).drew) hJ.out hN9).mono ?_; rintro e w2 ⟨hb2, A2, c2, rfl, hown2⟩; have hb2' : Below (w1.alloc (.cells #[.int .i64 cl, .int .i64 (nth ws 1), .int .i64 (4 * (k : Int) + fm)] 3)).heap.size (w1.alloc (.cells #[.int .i64 cl, .int .i64 (nth ws 1), .int .i64 (4 * (k : Int) + fm)] 3)) w2 := below_of_drew hb2; have hbs : Below w1.heap.size w1 w2 := ((Below.refl _ _).alloc (Nat.le_refl _) (.cells #[.int .i64 cl, .int .i64 (nth ws 1), .int .i64 (4 * (k : Int) + fm)] 3)).trans (hb2'.mono hz2); have hS2 : w2.cell? ⟨w.heap.size, 0, none⟩ = some (.slice (some ⟨b, o, none⟩) ws.length c) ∧ w2.cell? ⟨b, o + 1, none⟩ = some (.int .i64 (nth ws 1)) := ⟨(hbs.cell (p := ⟨w.heap.size, 0, none⟩) x3).trans x1, (hbs.cell (p := ⟨b, o + 1, none⟩) hlt).trans hw1⟩; have HO := Lib.hid (Own.mono (base' := w1.heap.size) hown2 hz2); have HJ := Lib.hid ((ints_new w1 [cl, nth ws 1, 4 * (k : Int) + fm]).below hb2'))
          | (refine step_join rfl _ _ rfl w1.heap.size (.slice A2 ws.length c2) ws rfl HO.out (some ⟨_, 0, none⟩) 3 [cl, nth ws 1, 4 * (k : Int) + fm] rfl HJ.out hN3 hbs.size ?_; intro A3 c3 w3 hown3 hgr3 hat3; have hb3 : Below w1.heap.size w1 w3 := hbs.grown hgr3 hbs.size (fun k hk => (HO.out.lt k hk).1); have hS3 : w3.cell? ⟨w.heap.size, 0, none⟩ = some (.slice (some ⟨b, o, none⟩) ws.length c) ∧ w3.cell? ⟨b, o + 1, none⟩ = some (.int .i64 (nth ws 1)) := ⟨(hb3.cell (p := ⟨w.heap.size, 0, none⟩) x3).trans x1, (hb3.cell (p := ⟨b, o + 1, none⟩) hlt).trans hw1⟩))
    all_goals
      clear e0 e1 hS2 hS3
      obtain ⟨g3, rfl, hg3, hg3', _, hc3⟩ := hown3.some_ (by simp)
      have hc1 := hown3.cell 1 (by simp)
      rw [nth_left (by omega)] at hc1
      have hf1 := hown3.frz 1
      have hown4 := hown3.put 1 (nth ws 1 + 1)
      have HO4 := Lib.hid hown4
      have HB3 := Lib.hid hb3
      have HR3 := Lib.hid (HR1.out.below hb3 HR1.out.lt)
      clear hown3 hown4 hgr3 hat3 hbs hb3 hown2 hb2
      go_wp2_with (at_builtin; refine wpList_ext rfl _ _ rfl w1.heap.size g3 (ws.length + 3) c3 _ rfl HO4.out k rfl (by omega) (by have := HB3.out.size; simpa using this) ?_; intro g4 c4 w4 hown5 hgr4; have hb4 := Lib.hid ((HB3.out.setCell (p := ⟨g3, 1, none⟩) hg3 (.int .i64 (nth ws 1 + 1))).grown hgr4 (by have := HB3.out.size; simpa using this) (fun j hj => by simp at hj; omega)); have HR4 := Lib.hid (HR1.out.below hb4.out HR1.out.lt); obtain ⟨z1, z2, z3⟩ := HR4.out.f1)
      rw [HE.out]
      rw [newW_alt q1] at hown5
      have h6 : Own w4 w1.heap.size (.slice (some ⟨g4, 0, none⟩) (ws.length + 3 + k) c4) (newW ws cl fm k) := hown5
      refine bodyPost_ret (v := .tuple #[.agg #[.slice (some ⟨g4, 0, none⟩) (ws.length + 3 + k) c4], .int .i64 (2 * (ws.length : Int)), .int .i64 0]) (by simp [results, Try.results46, go_sem, z1]) rfl ⟨(HL1.out.trans (hb4.out.mono HL1.out.size)).setCell (by simp) _, some ⟨g4, 0, none⟩, c4, ?_, ?_⟩
      · rw [newW_len, Int.toNat_natCast]
      · rw [newW_len, Int.toNat_natCast]
        exact (h6.mono HL1.out.size).setCell _ (by simp [Value.ownBlock]; have := h6.block.1; omega) _
end
end Go.Proofs.Ytjpppdacamhhfaa
