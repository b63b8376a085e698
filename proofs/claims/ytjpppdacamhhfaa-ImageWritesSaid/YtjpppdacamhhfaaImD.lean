/- image.Read's deferred closure. Conditions: none. -/
import Derived.Test.YtjpppdacamhhfaaImL
namespace Go.Proofs.Ytjpppdacamhhfaa
open Go.RowKit
set_option linter.unusedVariables false

theorem assert_wrong (c a : Int) (w : World) : (Instr.typeAssert (wrongV c a) 20 143 true).run Try.prog w = .ok (.tuple #[.agg #[.int .i64 c, .int .i64 a], .bool true]) w := by
  unfold Instr.typeAssert
  simp [run_underlying Try.underlying143]
set_option maxRecDepth 100000 in
theorem catch_idle (p q r : Addr) (w : World) :
    CallsD Try.prog 124 #[.pointer (some p), .pointer (some q), .pointer (some r)] .returning w fun e u' w' => e = .returned (.tuple #[]) ∧ u' = .returning ∧ w' = w := by
  refine callsD_of_wpS Try.func124 rfl fun c₀ cs hu => ?_
  apply wpS_seq
  apply wpS_region
  simp [wpOpsS, go_sem, recoverD, hu, Try.ntmps124, Exit.thenS]
  refine wpS_of_wp ?_
  change Code.wp Try.prog _ _ { tmps := #[.pointer (some p), .pointer (some q), .pointer (some r), undef, undef, undef, .nilIface, undef, undef, undef, undef, undef, undef, undef, undef], defers := [] } w
  go_wp2
  cases c₀
  simp_all [bodyPostS, results, Try.results124]
set_option maxRecDepth 100000 in
set_option maxHeartbeats 1600000 in
theorem catch_panicking (R0 R1 R2 : Nat) (c a : Int) (u0 u1 u2 u3 : Value) (older : List PanicEntry) (w : World) (h0 : Blk w R0 33 #[u0]) (h1 : Blk w R1 22 #[u1]) (h2 : Blk w R2 36 #[u2, u3]) (n1 : R0 ≠ R1) (n2 : R0 ≠ R2) (n3 : R1 ≠ R2) :
    CallsD Try.prog 124 #[.pointer (some ⟨R0, 0, none⟩), .pointer (some ⟨R1, 0, none⟩), .pointer (some ⟨R2, 0, none⟩)] (.panicking ({ v := wrongV c a, recovered := false } :: older)) w fun e u' w' =>
      e = .returned (.tuple #[]) ∧ u' = .panicking ({ v := wrongV c a, recovered := true } :: older) ∧ Blk w' R0 33 #[.slice none 0 0] ∧ Blk w' R1 22 #[.slice none 0 0] ∧ Blk w' R2 36 #[.int .i64 c, .int .i64 a] ∧ Turned w w' (fun k => k = R0 ∨ k = R1 ∨ k = R2) := by
  obtain ⟨x1, x2, x3⟩ := h0.f1
  obtain ⟨y1, y2, y3⟩ := h1.f1
  obtain ⟨z1, z2, z3, z4, z5⟩ := h2.f2
  have hta := assert_wrong c a
  have H0 := Lib.hid h0; have H1 := Lib.hid h1; have H2 := Lib.hid h2
  clear h0 h1 h2
  refine callsD_of_wpS Try.func124 rfl fun c₀ cs hu => ?_
  apply wpS_seq
  apply wpS_region
  simp [wpOpsS, go_sem, recoverD, hu, Try.ntmps124, Exit.thenS]
  refine wpS_of_wp ?_
  change Code.wp Try.prog _ _ { tmps := #[.pointer (some ⟨R0, 0, none⟩), .pointer (some ⟨R1, 0, none⟩), .pointer (some ⟨R2, 0, none⟩), undef, undef, undef, wrongV c a, undef, undef, undef, undef, undef, undef, undef, undef], defers := [] } w
  go_wp2
  have hx9 : Blk (w.alloc (.cells #[.int .i64 c, .int .i64 a] 143)) w.heap.size 143 #[.int .i64 c, .int .i64 a] := Blk.new _ _ _
  have HB0 := Lib.hid (H0.out.alloc (.cells #[.int .i64 c, .int .i64 a] 143)); have HB1 := Lib.hid (H1.out.alloc (.cells #[.int .i64 c, .int .i64 a] 143)); have HB2 := Lib.hid (H2.out.alloc (.cells #[.int .i64 c, .int .i64 a] 143))
  have HT := Lib.hid ((Turned.refl w (fun k => k = R0 ∨ k = R1 ∨ k = R2)).alloc (.cells #[.int .i64 c, .int .i64 a] 143))
  have hX0 : R0 ≠ w.heap.size := by omega
  have hX1 : R1 ≠ w.heap.size := by omega
  have hX2 : R2 ≠ w.heap.size := by omega
  clear x1 x2 x3 y1 y2 y3 z1 z2 z3 z4 z5
  generalize (w.alloc (.cells #[.int .i64 c, .int .i64 a] 143)) = w5 at *
  generalize w.heap.size = X at *
  obtain ⟨v1, v2, v3, v4, v5⟩ := hx9.f2
  obtain ⟨x1, x2, x3⟩ := HB0.out.f1
  obtain ⟨y1, y2, y3⟩ := HB1.out.f1
  obtain ⟨z1, z2, z3, z4, z5⟩ := HB2.out.f2
  clear hta hx9
  go_region
  all_goals (try go_wp2)
  have q0 : Blk (w5.setCell ⟨R0, 0, none⟩ (.slice none 0 0)) R0 33 #[.slice none 0 0] := HB0.out.set_ 0 (.slice none 0 0)
  have q1 : Blk ((w5.setCell ⟨R0, 0, none⟩ (.slice none 0 0)).setCell ⟨R1, 0, none⟩ (.slice none 0 0)) R1 22 #[.slice none 0 0] := (HB1.out.far (fun e => n1 e.symm) _).set_ 0 (.slice none 0 0)
  have q2 := ((((HB2.out.far (p := ⟨R0, 0, none⟩) (fun e => n2 e.symm) (.slice none 0 0)).far (p := ⟨R1, 0, none⟩) (fun e => n3 e.symm) (.slice none 0 0)).set_ 0 (.int .i64 c)).set_ 1 (.int .i64 a))
  have qt := ((((HT.out.setCell (p := ⟨R0, 0, none⟩) (.inl (.inl rfl)) (.slice none 0 0)).setCell (p := ⟨R1, 0, none⟩) (.inl (.inr (.inl rfl))) (.slice none 0 0)).setCell (p := ⟨R2, 0, none⟩) (.inl (.inr (.inr rfl))) (.int .i64 c)).setCell (p := ⟨R2, 1, none⟩) (.inl (.inr (.inr rfl))) (.int .i64 a)).drewN 1
  exact ⟨rfl, _, rfl, _, by simp [results, Try.results124, go_sem], rfl, rfl, ((q0.far n1 _).far n2 _).far n2 _, (q1.far n3 _).far n3 _, q2, qt⟩
end Go.Proofs.Ytjpppdacamhhfaa
