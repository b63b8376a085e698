/- gessoref6's number. Conditions: bytes. -/
import Derived.Test.YtjpppdacamhhfaaImL
namespace Go.Proofs.Ytjpppdacamhhfaa
open Go.RowKit
set_option linter.unusedVariables false

theorem nat_td (v : Nat) : (v : Int).tdiv 2 = (v : Int) / 2 := Int.tdiv_eq_ediv_of_nonneg (by omega)
theorem nat_wu (v : Nat) (h : v < 9223372036854775808) : IntKind.u64.wrap ((v : Int) / 2) = (v : Int) / 2 := by rw [IntKind.wrap_u64]; omega
theorem nat_w2 (v : Nat) (h : v < 9223372036854775808) : wrap64 ((v : Int) / 2) = (v : Int) / 2 := IntWalk.wrap64_in _ (by omega)
theorem nat_w3 (v : Nat) (h : v < 9223372036854775808) : wrap64 (-((v : Int) / 2)) = -((v : Int) / 2) := IntWalk.wrap64_in _ (by omega)
theorem nat_w4 (v : Nat) (h : v < 9223372036854775808) : wrap64 (-((v : Int) / 2) - 1) = -((v : Int) / 2) - 1 := IntWalk.wrap64_in _ (by omega)
theorem nat_odd (v : Nat) (h : v % 2 = 1) : ((v : Int) % 2 == 1) = true := by simp; omega
theorem nat_even (v : Nat) (h : ¬ v % 2 = 1) : ((v : Int) % 2 == 1) = false := by simp; omega
theorem unz_odd (v : Nat) (h : v % 2 = 1) : unz v = -((v : Int) / 2) - 1 := by unfold unz; rw [if_pos h]; omega
theorem unz_even (v : Nat) (h : ¬ v % 2 = 1) : unz v = (v : Int) / 2 := by unfold unz; rw [if_neg h]; omega
theorem sum_in (a : Int) (h0 : -9223372036854775808 ≤ a) (h1 : a ≤ 9223372036854775807) : IntKind.i64.wrap a = a := IntWalk.i64_in _ ⟨h0, h1⟩

def RNumEnd (at_ : Nat) (r : Got Int) (len : Nat) (w : World) (e : Ending) (w' : World) : Prop :=
  Below w.heap.size w w' ∧ ((∃ x a, r = .ok x a ∧ at_ ≤ a ∧ a ≤ len ∧ e = .returned (.tuple #[.int .i64 x, .int .i64 ((a - at_ : Nat) : Int), fltV 0 0])) ∨
    (∃ n a, r = .no n a ∧ e = .returned (.tuple #[.int .i64 0, .int .i64 0, fltV n a])))

set_option maxRecDepth 100000 in
set_option maxHeartbeats 4000000 in
theorem rrnum_any (c : Nat) (A : Option Addr) (b : List Int) (at_ : Nat) (w : World) (hat : at_ ≤ b.length) (hbl : b.length ≤ 9223372036854775807) (hA : IntsU w A b) (hb : ∀ j, 0 ≤ nth b j ∧ nth b j ≤ 255) :
    Calls Try.prog 156 #[.slice A b.length c, .int .i64 at_] w (RNumEnd at_ (rdN b at_) b.length w) := by
  have hx0 : Below w.heap.size w (w.alloc (.cells #[.int .i64 0, .int .i64 0] 36)) := (Below.refl _ _).alloc (Nat.le_refl _) _
  have HX0 := Lib.hid hx0
  have HF0 := Lib.hid (Blk.new w 36 #[.int .i64 0, .int .i64 0])
  have HA := Lib.hid (hA.below hx0); have HB := Lib.hid hb
  clear hx0 hA hb
  go_enter Try.func156, Try.ntmps156
  go_wp2_with fail
  generalize (w.alloc (.cells #[.int .i64 0, .int .i64 0] 36)) = w1 at *
  generalize hN : w.heap.size = N at *
  have HN := Lib.hid hN
  clear hN
  go_loopw [7, 8] (fun v s wr => ∃ k u : Nat, k ≤ 9 ∧ v = .int .u64 u ∧ s = .int .i64 (k : Int) ∧ u < 2 ^ (7 * k) ∧ at_ + k ≤ b.length ∧ w1 = wr ∧ rdN b at_ = rdF b at_ (9 - k) k u) (fun _ s _ => 9 - (intOf s).toNat)
  case atStart => exact ⟨0, 0, by omega, rfl, rfl, by decide, hat, rfl, rfl⟩
  case round =>
    obtain ⟨k, u, hk, rfl, rfl, hu, hak, rfl, he⟩ := hrel
    have HE := Lib.hid he
    obtain ⟨z1, z2, z3, z4, z5⟩ := HF0.out.f2
    have hw1 : IntKind.i64.wrap ((at_ : Int) + (k : Int)) = (at_ : Int) + (k : Int) := IntWalk.i64_in _ (by omega)
    clear he
    by_cases h9 : k = 9
    · subst h9
      by_cases hend : b.length ≤ at_ + 9
      · have hrd : rdN b at_ = .no 8 (b.length : Nat) := by
          rw [HE.out]; show rdF b at_ 0 9 u = _; unfold rdF; rw [if_pos hend]
        have HRD := Lib.hid hrd
        have hle : (b.length : Int) ≤ (at_ : Int) + 9 := by omega
        clear hrd HE hu
        go_wp2_with fail
        refine bodyPost_ret (v := .tuple #[.int .i64 0, .int .i64 0, fltV 8 b.length]) (by simp [results, Try.results156, go_sem, fltV, z1, z2]) rfl ⟨?_, .inr ⟨8, b.length, HRD.out, rfl⟩⟩
        rw [HN.out]; exact (HX0.out.setCell (p := ⟨N, 0, none⟩) (Nat.le_refl _) _).setCell (p := ⟨N, 1, none⟩) (Nat.le_refl _) _
      · have hrd : rdN b at_ = .no 2 at_ := by
          rw [HE.out]; show rdF b at_ 0 9 u = _; unfold rdF; rw [if_neg hend]
        have HRD := Lib.hid hrd
        have hle : ¬ (b.length : Int) ≤ (at_ : Int) + 9 := by omega
        clear hrd HE hu
        go_wp2_with fail
        refine bodyPost_ret (v := .tuple #[.int .i64 0, .int .i64 0, fltV 2 at_]) (by simp [results, Try.results156, go_sem, fltV, z1, z2]) rfl ⟨?_, .inr ⟨2, at_, HRD.out, rfl⟩⟩
        rw [HN.out]; exact (HX0.out.setCell (p := ⟨N, 0, none⟩) (Nat.le_refl _) _).setCell (p := ⟨N, 1, none⟩) (Nat.le_refl _) _
    · have hk9 : (k : Int) < 9 := by omega
      obtain ⟨n, hn⟩ : ∃ n, 9 - k = n + 1 := ⟨8 - k, by omega⟩
      by_cases hend : at_ + k = b.length
      · have hrd : rdN b at_ = .no 8 (b.length : Nat) := by
          rw [HE.out, hn]; unfold rdF; rw [if_pos (by omega)]
        have HRD := Lib.hid hrd
        have hle : (b.length : Int) ≤ (at_ : Int) + (k : Int) := by omega
        clear hrd HE hu hn
        go_wp2_with fail
        refine bodyPost_ret (v := .tuple #[.int .i64 0, .int .i64 0, fltV 8 b.length]) (by simp [results, Try.results156, go_sem, fltV, z1, z2]) rfl ⟨?_, .inr ⟨8, b.length, HRD.out, rfl⟩⟩
        rw [HN.out]; exact (HX0.out.setCell (p := ⟨N, 0, none⟩) (Nat.le_refl _) _).setCell (p := ⟨N, 1, none⟩) (Nat.le_refl _) _
      · obtain ⟨bb, oo, rfl, hbb, hrow⟩ := HA.out (by omega)
        have e1 := hrow (at_ + k) (by omega)
        obtain ⟨c1, c2⟩ := HB.out (at_ + k)
        have hle : ¬ (b.length : Int) ≤ (at_ : Int) + (k : Int) := by omega
        have hlt : (at_ : Int) + (k : Int) < (b.length : Int) := by omega
        have h0 : (0 : Int) ≤ (at_ : Int) + (k : Int) := by omega
        have htn : ((at_ : Int) + (k : Int)).toNat = at_ + k := by omega
        clear hrow
        generalize hcc : nth b (at_ + k) = ch at *
        have HCC := Lib.hid hcc
        clear hcc
        by_cases hz : ch = 0 ∧ 0 < k
        · obtain ⟨hz0, hz1⟩ := hz
          have hrd : rdN b at_ = .no 2 at_ := by
            rw [HE.out, hn]; unfold rdF; rw [if_neg (by omega), HCC.out, if_pos ⟨hz0, hz1⟩]
          have HRD := Lib.hid hrd
          subst hz0
          have h0k : (0 : Int) < (k : Int) := by omega
          clear hrd HE hu hn
          go_wp2_with fail
          refine bodyPost_ret (v := .tuple #[.int .i64 0, .int .i64 0, fltV 2 at_]) (by simp [results, Try.results156, go_sem, fltV, z1, z2]) rfl ⟨?_, .inr ⟨2, at_, HRD.out, rfl⟩⟩
          rw [HN.out]; exact (HX0.out.setCell (p := ⟨N, 0, none⟩) (Nat.le_refl _) _).setCell (p := ⟨N, 1, none⟩) (Nat.le_refl _) _
        · have hzc : (ch = 0 ∧ k = 0) ∨ (ch == 0) = false := by
            by_cases e : ch = 0
            · exact .inl ⟨e, by omega⟩
            · exact .inr (by simpa using e)
          rcases hzc with ⟨rfl, rfl⟩ | hcb
          · obtain rfl : u = 0 := by simpa using hu
            have he2 : rdN b at_ = .ok 0 (at_ + 0 + 1) := by
              rw [HE.out]; show rdF b at_ 9 0 0 = _; unfold rdF; rw [if_neg (by omega), HCC.out, if_neg (by omega), if_pos (by decide)]; rfl
            have HE := Lib.hid he2
            have HUN : Hid (True) := trivial
            clear he2 hn hu
            simp only [Nat.add_zero] at e1
            go_wp2_with fail
            refine bodyPost_ret (v := .tuple #[.int .i64 0, .int .i64 1, fltV 0 0]) (by simp [results, Try.results156, go_sem, fltV, z1, z2]) rfl ⟨?_, .inl ⟨_, at_ + 0 + 1, HE.out, by omega, by omega, ?_⟩⟩
            · rw [HN.out]; exact (HX0.out.setCell (p := ⟨N, 0, none⟩) (Nat.le_refl _) _).setCell (p := ⟨N, 1, none⟩) (Nat.le_refl _) _
            · rw [show at_ + 0 + 1 - at_ = 1 from by omega]; rfl
          · have hpw7 : 2 ^ (7 * (k + 1)) = 128 * 2 ^ (7 * k) := by rw [show 7 * (k + 1) = 7 + 7 * k from by omega, Nat.pow_add]
            have hp63 : 2 ^ (7 * (k + 1)) ≤ 9223372036854775808 := by
              have : (9223372036854775808 : Nat) = 2 ^ 63 := by decide
              rw [this]; exact Nat.pow_le_pow_right (by omega) (by omega)
            generalize hy : ch % 128 = y at *
            have hy0 : 0 ≤ y ∧ y < 128 := by omega
            have hmy : ch.tmod 128 = y := by rw [Int.tmod_eq_emod_of_nonneg c1]; exact hy
            have hwy : IntKind.u64.wrap y = y := by rw [IntKind.wrap_u64]; omega
            have hxs : y.toNat * 2 ^ (7 * k) ≤ 127 * 2 ^ (7 * k) := Nat.mul_le_mul_right _ (by omega)
            have hsh : IntKind.u64.wrap (y * 2 ^ (7 * k)) = ((y.toNat * 2 ^ (7 * k) : Nat) : Int) := by
              have e : y * 2 ^ (7 * k) = ((y.toNat * 2 ^ (7 * k) : Nat) : Int) := by
                rw [Int.natCast_mul, Int.toNat_of_nonneg hy0.1]; rw [Int.natCast_pow]; rfl
              rw [e, IntKind.wrap_u64]; omega
            have hrd0 : rdF b at_ (9 - k) k u = if nth b (at_ + k) < 128 then .ok (unz (u + y.toNat * 2 ^ (7 * k))) (at_ + k + 1) else rdF b at_ n (k + 1) (u + y.toNat * 2 ^ (7 * k)) := by
              rw [hn]
              conv => lhs; unfold rdF
              rw [if_neg (by omega), HCC.out, if_neg hz, hy]
            rw [hrd0, HCC.out] at HE
            have hvl : u + y.toNat * 2 ^ (7 * k) < 2 ^ (7 * (k + 1)) := by omega
            have hv63 : u + y.toNat * 2 ^ (7 * k) < 9223372036854775808 := Nat.lt_of_lt_of_le hvl hp63
            have hsum : IntKind.u64.wrap ((u : Int) + ((y.toNat * 2 ^ (7 * k) : Nat) : Int)) = ((u + y.toNat * 2 ^ (7 * k) : Nat) : Int) := by rw [IntKind.wrap_u64]; omega
            have HVL := Lib.hid hvl
            clear hrd0 hxs hpw7 hz hvl hp63 hu
            generalize y.toNat * 2 ^ (7 * k) = s at *
            generalize hv : u + s = v at *
            clear hv
            by_cases h128 : ch < 128
            · rw [if_pos h128] at HE
              have htd : (v : Int).tdiv 2 = (v : Int) / 2 := nat_td v
              have hwu : IntKind.u64.wrap ((v : Int) / 2) = (v : Int) / 2 := nat_wu v hv63
              have hw2 : wrap64 ((v : Int) / 2) = (v : Int) / 2 := nat_w2 v hv63
              have hwk : IntKind.i64.wrap ((k : Int) + 1) = (k : Int) + 1 := IntWalk.i64_in _ (by omega)
              by_cases hodd : v % 2 = 1
              · have hob : ((v : Int) % 2 == 1) = true := nat_odd v hodd
                have hun : unz v = -((v : Int) / 2) - 1 := unz_odd v hodd
                have hw3 : wrap64 (-((v : Int) / 2)) = -((v : Int) / 2) := nat_w3 v hv63
                have hw4 : wrap64 (-((v : Int) / 2) - 1) = -((v : Int) / 2) - 1 := nat_w4 v hv63
                have HUN := Lib.hid hun
                clear hun hn hodd hend hy0 c1 c2 hat hak hbl hv63
                go_wp2_with fail
                refine bodyPost_ret (v := .tuple #[.int .i64 (-((v : Int) / 2) - 1), .int .i64 ((k : Int) + 1), fltV 0 0]) (by simp [results, Try.results156, go_sem, fltV, z1, z2]) rfl ⟨?_, .inl ⟨_, at_ + k + 1, HE.out, by omega, by omega, ?_⟩⟩
                · rw [HN.out]; exact (HX0.out.setCell (p := ⟨N, 0, none⟩) (Nat.le_refl _) _).setCell (p := ⟨N, 1, none⟩) (Nat.le_refl _) _
                · rw [HUN.out, show at_ + k + 1 - at_ = k + 1 from by omega]; rfl
              · have hob : ((v : Int) % 2 == 1) = false := nat_even v hodd
                have hun : unz v = (v : Int) / 2 := unz_even v hodd
                have HUN := Lib.hid hun
                clear hun hn hodd hend hy0 c1 c2 hat hak hbl hv63
                go_wp2_with fail
                refine bodyPost_ret (v := .tuple #[.int .i64 ((v : Int) / 2), .int .i64 ((k : Int) + 1), fltV 0 0]) (by simp [results, Try.results156, go_sem, fltV, z1, z2]) rfl ⟨?_, .inl ⟨_, at_ + k + 1, HE.out, by omega, by omega, ?_⟩⟩
                · rw [HN.out]; exact (HX0.out.setCell (p := ⟨N, 0, none⟩) (Nat.le_refl _) _).setCell (p := ⟨N, 1, none⟩) (Nat.le_refl _) _
                · rw [HUN.out, show at_ + k + 1 - at_ = k + 1 from by omega]; rfl
            · rw [if_neg h128] at HE
              have hnn : n = 9 - (k + 1) := by omega
              rw [hnn] at HE
              clear hn
              go_wp2_with fail
              go_roundw
              case rel => exact ⟨k + 1, v, by omega, rfl, by go_num, HVL.out, by omega, (by first | rfl | trivial), HE.out⟩
              case measure => simp [intOf]; omega
end Go.Proofs.Ytjpppdacamhhfaa
