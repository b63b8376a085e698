/- image's reader: numbers. Conditions: none. -/
import Derived.Test.YtjpppdacamhhfaaImW
import Derived.Test.YtjpppdacamhhfaaMover
import Derived.Recover
import Derived.BigQuiet
import Derived.Laws.Bits64b
namespace Go.Proofs.Ytjpppdacamhhfaa
open Go.RowKit
set_option linter.unusedVariables false

theorem turned_below' {w w' : World} {S : Nat → Prop} (h : Below w.heap.size w w') : Turned w w' S := ⟨h.os, h.tape, h.output, h.size, fun k hk _ => h.block k hk⟩
/-- What is thrown. -/
abbrev wrongV (c a : Int) : Value := .iface 143 (.agg #[.int .i64 c, .int .i64 a])
set_option maxRecDepth 100000 in
theorem fail_any (g : Nat) (c a : Int) (w : World) : Calls Try.prog 125 #[.pointer (some ⟨g, 0, none⟩), .int .i64 c, .int .i64 a] w fun e w' => e = .panicked [{ v := wrongV c a, recovered := false }] ∧ w = w' := by
  go_enter Try.func125, Try.ntmps125
  go_wp2_with fail
  exact ⟨rfl, rfl, rfl⟩

theorem and_127 : ∀ a : Fin 256, bits .and .u8 ((a.val : Nat) : Int) 127 = ((a.val : Nat) : Int) % 128 := by decide +kernel
theorem and_low {c : Int} (h1 : 0 ≤ c) (h2 : c ≤ 255) : bits .and .u8 c 127 = c % 128 := by
  have := and_127 ⟨c.toNat, by omega⟩
  simp only at this
  rwa [Int.toNat_of_nonneg h1] at this
theorem or_add {u x k : Nat} (hu : u < 2 ^ (7 * k)) (hs : x * 2 ^ (7 * k) < 18446744073709551616) (hu2 : u < 18446744073709551616) : bits .or .u64 (u : Int) ((x * 2 ^ (7 * k) : Nat) : Int) = ((u + x * 2 ^ (7 * k) : Nat) : Int) := by
  rw [bits_or_u64_nat u _ hu2 hs, Nat.or_comm, Nat.mul_comm x, ← Nat.two_pow_add_eq_or_of_lt hu, Nat.add_comm]
theorem and_one (u : Nat) (hu : u < 18446744073709551616) : bits .and .u64 (u : Int) 1 = ((u % 2 : Nat) : Int) := by
  have := bits_and_u64_nat u 1 hu (by decide)
  rw [Nat.and_one_is_mod] at this
  exact this

theorem xor_neg (v : Nat) (hv : v < 9223372036854775808) : bits .xor .i64 (-1) ((v : Int) / 2) = -((v : Int) / 2) - 1 := by
  obtain ⟨y, e, hy⟩ : ∃ y : Nat, (v : Int) / 2 = (y : Int) ∧ y < 9223372036854775808 := ⟨v / 2, by omega, by omega⟩
  rw [e]
  show IntKind.i64.wrap ((BitVec.ofInt 64 (-1) ^^^ BitVec.ofInt 64 (y : Int)).toNat : Int) = _
  have h1 : BitVec.ofInt 64 (-1) = BitVec.allOnes 64 := by decide
  have h2 : (BitVec.ofInt 64 (y : Int)).toNat = y := by
    rw [BitVec.ofInt_natCast, BitVec.toNat_ofNat]; exact Nat.mod_eq_of_lt (by omega)
  rw [h1, BitVec.allOnes_xor, BitVec.toNat_not, h2, IntKind.wrap_i64]
  omega
theorem fdiv_two (v : Nat) : (v : Int).fdiv (2 ^ min (Int.toNat 1) IntKind.u64.bits) = ((v / 2 : Nat) : Int) := by
  show (v : Int).fdiv 2 = _
  rw [Int.fdiv_eq_ediv_of_nonneg _ (by omega)]; omega
/-- A reader in block g: its bytes, and where it is. -/
def RdI (w : World) (g : Nat) (A : Option Addr) (c : Nat) (b : List Int) (p : Nat) : Prop := Blk w g 146 #[.slice A b.length c, .int .i64 (p : Int)]
def NumEnd (g : Nat) (A : Option Addr) (c : Nat) (b : List Int) (r : Got Int) (w : World) (e : Ending) (w' : World) : Prop :=
  (∃ x a, r = .ok x a ∧ a ≤ b.length ∧ e = .returned (.int .i64 x) ∧ RdI w' g A c b a ∧ Turned w w' (fun k => k = g)) ∨
  (∃ n a, r = .no n a ∧ e = .panicked [{ v := wrongV n a, recovered := false }] ∧ Turned w w' (fun k => k = g))

set_option maxRecDepth 100000 in
set_option maxHeartbeats 4000000 in
theorem rnum_any (g c : Nat) (A : Option Addr) (b : List Int) (at_ : Nat) (w : World) (h : RdI w g A c b at_) (hat : at_ ≤ b.length) (hbl : b.length ≤ 9223372036854775807) (hA : ∀ W, Turned w W (fun k => k = g) → IntsU W A b) (hb : ∀ j, 0 ≤ nth b j ∧ nth b j ≤ 255) :
    Calls Try.prog 155 #[.pointer (some ⟨g, 0, none⟩)] w (NumEnd g A c b (rdN b at_) w) := by
  have HR := Lib.hid h; have HA := Lib.hid hA; have HB := Lib.hid hb
  obtain ⟨x1, x2, x3, x4, x5⟩ := h.f2
  clear h hA hb
  go_enter Try.func155, Try.ntmps155
  go_wp2_with fail
  clear x1 x2 x3 x4 x5
  go_loopw [4, 5] (fun v s wr => ∃ k u : Nat, k ≤ 9 ∧ v = .int .u64 u ∧ s = .int .i64 ((7 * k : Nat) : Int) ∧ u < 2 ^ (7 * k) ∧ at_ + k ≤ b.length ∧ RdI wr g A c b (at_ + k) ∧ Turned w wr (fun k => k = g) ∧ rdN b at_ = rdF b at_ (9 - k) k u) (fun _ s _ => 63 - (intOf s).toNat)
  case atStart => exact ⟨0, 0, by omega, rfl, rfl, by decide, hat, HR.out, Turned.refl _ _, rfl⟩
  case round =>
    obtain ⟨k, u, hk, rfl, rfl, hu, hak, hr, ht, he⟩ := hrel
    have HRR := Lib.hid hr; have HT := Lib.hid ht; have HE := Lib.hid he
    obtain ⟨x1, x2, x3, x4, x5⟩ := hr.f2
    clear hr ht he
    by_cases hend : at_ + k = b.length
    · have hrd : rdN b at_ = .no 8 (b.length : Nat) := by
        rw [HE.out]
        by_cases h9 : k = 9
        · subst h9; show rdF b at_ 0 9 u = _; unfold rdF; rw [if_pos (by omega)]
        · obtain ⟨n, hn⟩ : ∃ n, 9 - k = n + 1 := ⟨8 - k, by omega⟩
          rw [hn]; unfold rdF; rw [if_pos (by omega)]
      have HRD := Lib.hid hrd
      rw [hend] at x2
      clear hrd HE HRR
      go_wp2_with fail
      go_quiet (fail)
      go_wp2_with (go_at_call 125; refine (fail_any _ _ _ _).mono ?_; rintro e w' ⟨rfl, rfl⟩)
      exact ⟨rfl, .inr ⟨8, b.length, HRD.out, rfl, HT.out.trans (turned_below' (belowN _ _ _)) (fun _ _ e => e)⟩⟩
    · obtain ⟨bb, oo, rfl, hbb, hrow⟩ := HA.out wr HT.out (by omega)
      have e1 := hrow (at_ + k) (by omega)
      obtain ⟨c1, c2⟩ := HB.out (at_ + k)
      have hne : (((at_ + k : Nat) : Int) == ((b.length : Nat) : Int)) = false := by simp; omega
      clear hrow
      generalize hcc : nth b (at_ + k) = ch at *
      have HCC := Lib.hid hcc
      clear hcc
      generalize hp : at_ + k = p at *
      have hpl : (p : Int) < (b.length : Int) := by omega
      have hpw : IntKind.i64.wrap ((p : Int) + 1) = (p : Int) + 1 := IntWalk.i64_in _ (by omega)
      have hbk : ∀ m, RdI ((wr.drewN m).setCell ⟨g, 1, none⟩ (.int .i64 ((p : Int) + 1))) g (some ⟨bb, oo, none⟩) c b (p + 1) := fun m => by
        have := (HRR.out.drewN m).set_ 1 (.int .i64 ((p : Int) + 1))
        simpa [RdI] using this
      have HBK := Lib.hid hbk
      clear hbk
      by_cases h9 : k = 9
      · have hrd : rdN b at_ = .no 2 at_ := by
          rw [HE.out, h9]
          show rdF b at_ 0 9 u = _
          unfold rdF; rw [if_neg (by omega)]
        have HRD := Lib.hid hrd
        have h63 : (7 : Int) * (k : Int) = 63 := by omega
        clear hrd HE HRR hu
        go_wp2_with fail
        go_quiet (fail)
        go_wp2_with fail
        go_quiet (fail)
        go_wp2_with (go_at_call 125; refine (fail_any _ _ _ _).mono ?_; rintro e w' ⟨rfl, rfl⟩)
        exact ⟨rfl, .inr ⟨2, at_, HRD.out, rfl, (HT.out.drewN _).setCell (.inl rfl) _⟩⟩
      · have h63 : ¬ (7 : Int) * (k : Int) = 63 := by omega
        have h63b : ((7 : Int) * (k : Int) == 63) = false := by simp; omega
        obtain ⟨n, hn⟩ : ∃ n, 9 - k = n + 1 := ⟨8 - k, by omega⟩
        by_cases hz : ch = 0 ∧ 0 < k
        · obtain ⟨hz0, hz1⟩ := hz
          have hrd : rdN b at_ = .no 2 at_ := by
            rw [HE.out, hn]; unfold rdF; rw [if_neg (by omega), hp, HCC.out, if_pos ⟨hz0, hz1⟩]
          have HRD := Lib.hid hrd
          subst hz0
          have h0k : (0 : Int) < 7 * (k : Int) := by omega
          clear hrd HE HRR hu hn
          go_wp2_with fail
          go_quiet (fail)
          go_wp2_with fail
          go_quiet (fail)
          go_wp2_with (go_at_call 125; refine (fail_any _ _ _ _).mono ?_; rintro e w' ⟨rfl, rfl⟩)
          exact ⟨rfl, .inr ⟨2, at_, HRD.out, rfl, (HT.out.drewN _).setCell (.inl rfl) _⟩⟩
        · have hzc : (ch = 0 ∧ k = 0) ∨ (ch == 0) = false := by
            by_cases e : ch = 0
            · exact .inl ⟨e, by omega⟩
            · exact .inr (by simpa using e)
          have hand := and_low c1 c2
          generalize hy : ch % 128 = y at *
          have hy0 : 0 ≤ y ∧ y < 128 := by omega
          have hcv : IntKind.u64.wrap y = y := by rw [IntKind.wrap_u64]; omega
          have hpw7 : 2 ^ (7 * (k + 1)) = 128 * 2 ^ (7 * k) := by rw [show 7 * (k + 1) = 7 + 7 * k from by omega, Nat.pow_add]
          have hp63 : 2 ^ (7 * (k + 1)) ≤ 9223372036854775808 := by
            have : (9223372036854775808 : Nat) = 2 ^ 63 := by decide
            rw [this]; exact Nat.pow_le_pow_right (by omega) (by omega)
          have hxs : y.toNat * 2 ^ (7 * k) ≤ 127 * 2 ^ (7 * k) := Nat.mul_le_mul_right _ (by omega)
          have hor := or_add (u := u) (x := y.toNat) (k := k) hu (by omega) (by omega)
          have hsh : IntKind.u64.wrap (y * 2 ^ (7 * k)) = ((y.toNat * 2 ^ (7 * k) : Nat) : Int) := by
            have e : y * 2 ^ (7 * k) = ((y.toNat * 2 ^ (7 * k) : Nat) : Int) := by
              rw [Int.natCast_mul, Int.toNat_of_nonneg hy0.1]; rw [Int.natCast_pow]; rfl
            rw [e, IntKind.wrap_u64]; omega
          have hrd0 : rdF b at_ (9 - k) k u = if nth b p < 128 then .ok (unz (u + y.toNat * 2 ^ (7 * k))) (p + 1) else rdF b at_ n (k + 1) (u + y.toNat * 2 ^ (7 * k)) := by
            rw [hn]
            conv => lhs; unfold rdF
            rw [if_neg (by omega), hp, HCC.out, if_neg hz, hy, ← HCC.out]
          rw [hrd0] at HE
          have hvl : u + y.toNat * 2 ^ (7 * k) < 2 ^ (7 * (k + 1)) := by omega
          have hv63 : u + y.toNat * 2 ^ (7 * k) < 9223372036854775808 := Nat.lt_of_lt_of_le hvl hp63
          have hor0 : k = 0 → bits .or .u64 (u : Int) y = ((u + y.toNat * 2 ^ (7 * k) : Nat) : Int) := fun e => by
            rw [← hor]
            congr 1
            rw [e]; simp; try omega
          have HVL := Lib.hid hvl
          clear hrd0 HRR hxs hpw7 hz hvl hp63
          generalize y.toNat * 2 ^ (7 * k) = s at *
          generalize hv : u + s = v at *
          clear hv
          rcases hzc with ⟨rfl, rfl⟩ | hcb
          all_goals (
            try (have hor1 := hor0 rfl)
            clear hor0
            by_cases h128 : nth b p < 128
            · rw [if_pos h128] at HE
              rw [HCC.out] at h128
              have hand1 := and_one v (by omega)
              have hw2 : wrap64 ((v : Int) / 2) = (v : Int) / 2 := IntWalk.wrap64_in _ (by omega)
              have hsg : IntKind.i64.signed = true := rfl
              by_cases hodd : v % 2 = 1
              · have hob : (bits .and .u64 (v : Int) 1 == 1) = true := by rw [hand1, hodd]; rfl
                have hun : unz v = -((v : Int) / 2) - 1 := by unfold unz; rw [if_pos hodd]; omega
                have HUN := Lib.hid hun
                have hx := xor_neg v (by omega)
                clear hand1 hun hn h9 hy
                go_wp2_with fail
                go_quiet (fail)
                go_wp2_with fail
                go_quiet (fail)
                go_wp2_with fail
                refine bodyPost_ret (v := .int .i64 (-((v : Int) / 2) - 1)) (by simp [results, Try.results155, go_sem]) rfl (.inl ⟨_, p + 1, HE.out, by omega, by rw [HUN.out], HBK.out _, (HT.out.drewN _).setCell (.inl rfl) _⟩)
              · have hob : (bits .and .u64 (v : Int) 1 == 1) = false := by rw [hand1]; simp; omega
                have hun : unz v = (v : Int) / 2 := by unfold unz; rw [if_neg hodd]; omega
                have HUN := Lib.hid hun
                clear hand1 hun hn h9 hy
                go_wp2_with fail
                go_quiet (fail)
                go_wp2_with fail
                go_quiet (fail)
                go_wp2_with fail
                refine bodyPost_ret (v := .int .i64 ((v : Int) / 2)) (by simp [results, Try.results155, go_sem]) rfl (.inl ⟨_, p + 1, HE.out, by omega, by rw [HUN.out], HBK.out _, (HT.out.drewN _).setCell (.inl rfl) _⟩)
            · rw [if_neg h128] at HE
              rw [HCC.out] at h128
              first
                | (exfalso; omega)
                | (have hnn : n = 9 - (k + 1) := by omega
                   rw [hnn] at HE
                   clear hn hy
                   go_wp2_with fail
                   go_quiet (fail)
                   go_wp2_with fail
                   go_quiet (fail)
                   go_wp2_with fail
                   go_roundw
                   case rel => exact ⟨k + 1, v, by omega, rfl, by rw [show ((7 * (k + 1) : Nat) : Int) = 7 * (k : Int) + 7 from by omega], HVL.out, by omega, by rw [show at_ + (k + 1) = p + 1 from by omega]; exact HBK.out _, (HT.out.drewN _).setCell (.inl rfl) _, HE.out⟩
                   case measure => simp [intOf]; omega))
end Go.Proofs.Ytjpppdacamhhfaa
