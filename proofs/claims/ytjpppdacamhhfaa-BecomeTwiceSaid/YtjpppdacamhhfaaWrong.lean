/- The document's Wrong computes the plain function. Conditions: the words are numbers of 64 bits, a heap that may be. -/
import Derived.Test.YtjpppdacamhhfaaRef
import Derived.Test.YtjpppdacamhhfaaBSpec2
import Derived.Test.YtjpppdacamhhfaaRCheck
import Derived.Test.YtjpppdacamhhfaaAsked
import Derived.BigQuiet
namespace Go.Proofs.Ytjpppdacamhhfaa
open Go.RowKit
set_option linter.unusedVariables false

/-- Is somebody at i named twice, while the first k pairs are looked at? -/
def dupB (fr ot : List Int) (both : Bool) (i : Nat) : Nat → Bool
  | 0 => both && nth fr i == nth ot i
  | k + 1 => dupB fr ot both i k || (nth fr k == nth fr i || both && (nth fr k == nth ot i || nth ot k == nth fr i || nth ot k == nth ot i))
theorem dupB_iff {fr ot : List Int} {both : Bool} {i : Nat} : ∀ {k : Nat}, dupB fr ot both i k = true ↔ (Named fr ot both k (nth fr i) ∨ (both = true ∧ (nth fr i = nth ot i ∨ Named fr ot both k (nth ot i))))
  | 0 => by
    have h1 : ∀ o, ¬ Named fr ot both 0 o := fun o => named_zero
    simp [dupB, h1]
  | k + 1 => by
    rw [dupB, Bool.or_eq_true, dupB_iff (k := k), named_succ, named_succ]
    simp only [Bool.or_eq_true, Bool.and_eq_true, beq_iff_eq]
    by_cases a : nth fr k = nth fr i <;> by_cases b : both = true <;> by_cases e : nth fr k = nth ot i <;> by_cases f : nth ot k = nth fr i <;> by_cases g : nth ot k = nth ot i <;> simp [a, b, e, f, g] <;> (try omega) <;> (try (constructor <;> intro h <;> simp_all))
theorem dupB_twice {fr ot : List Int} {both : Bool} {i : Nat} : dupB fr ot both i i = true ↔ Twice fr ot both i := dupB_iff

theorem drew2 (w : World) (m n : Nat) : (w.drewN m).drewN n = w.drewN (m + n) := by simp [World.drewN, Nat.add_assoc]

section
variable (ws fr ot : List Int) (b o c : Nat) (A B : Option Addr) (c' d' : Nat) (both : Bool) (w : World) (hr : Row w b o ws) (hlt : b < w.heap.size) (hw : I64 ws) (hok : OkH ws)
  (hA : Ints w A fr) (hfr : I64 fr) (hfl : fr.length ≤ 1000000) (hB : Ints w B ot) (hto : I64 ot)
include hr hlt hw hok hA hfr hfl hB hto

set_option maxRecDepth 100000 in
set_option maxHeartbeats 4000000 in
theorem rwrong_any : Calls Try.prog 67 #[.agg #[.slice (some ⟨b, o, none⟩) ws.length c], .slice A fr.length c', .slice B ot.length d', .bool both] w fun e w' => e = .returned (fltV (wrongF ws fr ot both).1 (wrongF ws fr ot both).2) ∧ Below w.heap.size w w' := by
  have hx0 : Below w.heap.size w ((w.alloc (.cells #[.slice (some ⟨b, o, none⟩) ws.length c] 33)).alloc (.cells #[.int .i64 0, .int .i64 0] 36)) := ((Below.refl _ _).alloc (Nat.le_refl _) _).alloc (by simp) _
  have hr1 : Blk ((w.alloc (.cells #[.slice (some ⟨b, o, none⟩) ws.length c] 33)).alloc (.cells #[.int .i64 0, .int .i64 0] 36)) w.heap.size 33 #[.slice (some ⟨b, o, none⟩) ws.length c] := (Blk.new _ _ _).alloc _
  have hr2 : Blk ((w.alloc (.cells #[.slice (some ⟨b, o, none⟩) ws.length c] 33)).alloc (.cells #[.int .i64 0, .int .i64 0] 36)) (w.heap.size + 1) 36 #[.int .i64 0, .int .i64 0] := by
    have := Blk.new (w.alloc (.cells #[.slice (some ⟨b, o, none⟩) ws.length c] 33)) 36 #[.int .i64 0, .int .i64 0]
    simpa using this
  have HX0 := Lib.hid hx0; have HR1 := Lib.hid hr1; have HR2 := Lib.hid hr2
  have HR := Lib.hid (hr.below hx0 hlt); have HA := Lib.hid (hA.below hx0); have HB := Lib.hid (hB.below hx0)
  have HW := Lib.hid hw; have HOK := Lib.hid hok; have HFR := Lib.hid hfr; have HTO := Lib.hid hto
  have hq2 : ws.length ≤ 2000 := hok.most
  clear hx0 hr1 hr2 hr hA hB hw hok hfr hto
  by_cases hlen : fr.length = ot.length
  · have hd : ((fr.length : Int) != (ot.length : Int)) = false := by simp; omega
    have HLEN := Lib.hid hlen
    have hle : ot.length ≤ fr.length := by omega
    have hge : fr.length ≤ ot.length := by omega
    clear hlen
    go_enter Try.func67, Try.ntmps67
    go_wp2_with fail
    generalize hw1 : ((w.alloc (.cells #[.slice (some ⟨b, o, none⟩) ws.length c] 33)).alloc (.cells #[.int .i64 0, .int .i64 0] 36)) = w1 at *
    clear hw1 hd
    obtain ⟨x1, x2, x3⟩ := HR1.out.f1
    obtain ⟨y1, y2, y3, y4, y5⟩ := HR2.out.f2
    go_loopw [9] (fun i wr => ∃ j m : Nat, j ≤ fr.length ∧ i = .int .i64 j ∧ wr = w1.drewN m ∧ bpFrom ws fr ot 0 = bpFrom ws fr ot j) (fun i _ => fr.length - (intOf i).toNat)
    case atStart => exact ⟨0, 0, Nat.zero_le _, rfl, rfl, rfl⟩
    case round =>
      obtain ⟨j, m, hj, rfl, rfl, hbp⟩ := hrel
      have HBP := Lib.hid hbp; clear hbp
      by_cases hjl : j < fr.length
      · obtain ⟨b1, o1, rfl, _, r1⟩ := HA.out (by omega)
        obtain ⟨b2, o2, rfl, _, r2⟩ := HB.out (by omega)
        have e1 := r1 j hjl
        have e2 := r2 j (by omega)
        obtain ⟨t1, t2⟩ := HFR.out j
        obtain ⟨t3, t4⟩ := HTO.out j
        have g1 : (0 : Int) ≤ (j : Int) := by omega
        have g2 : (j : Int) < (fr.length : Int) := by omega
        have g3 : (j : Int) < (ot.length : Int) := by omega
        clear r1 r2
        have hcall : ∀ x, -9223372036854775808 ≤ x → x ≤ 9223372036854775807 → ∀ n k, Calls Try.prog 85 #[.slice (some ⟨b, o, none⟩) ws.length c, .int .i64 x] (w1.drewN (n + k)) fun e w' => e = .returned (.bool (isTh ws x)) ∧ ∃ q, w' = w1.drewN (n + q) := fun x hx1 hx2 n k => quiet_add_left (rthing_any ws b o c (w1.drewN (n + k)) (Row_drewN HR.out _) HW.out (by omega) HOK.out.bad x hx1 hx2)
        have HC1 := Lib.hid (hcall _ t1 t2)
        have HC2 := Lib.hid (hcall _ t3 t4)
        clear hcall
        go_wp2_with fail
        go_quiet ((go_at_call 85; exact HC1.out _ _))
        go_wp2_with fail
        go_quiet ((go_at_call 85; exact HC2.out _ _))
        cases hp : pairB ws fr ot j
        · have HBN := Lib.hid (HBP.out.trans (bpFrom_no hjl hp))
          have HE := Lib.hid (wrongF_pair (both := both) HLEN.out HBN.out)
          cases hq : isTh ws (nth fr j)
          · go_wp2
            refine bodyPost_ret (v := fltV 3 j) (by simp [results, Try.results67, go_sem, fltV, y1, y2]) rfl ⟨by rw [HE.out], ?_⟩
            repeat (first | exact HX0.out | refine Below.setCell ?_ (by dsimp only; omega) _ | refine Below.drew ?_ | exact HX0.out.trans (belowN _ _ _))
          · have hq2 : isTh ws (nth ot j) = false := by unfold pairB at hp; rw [hq] at hp; simpa using hp
            rw [hq2]
            go_wp2
            refine bodyPost_ret (v := fltV 3 j) (by simp [results, Try.results67, go_sem, fltV, y1, y2]) rfl ⟨by rw [HE.out], ?_⟩
            repeat (first | exact HX0.out | refine Below.setCell ?_ (by dsimp only; omega) _ | refine Below.drew ?_ | exact HX0.out.trans (belowN _ _ _))
        · have HBN := Lib.hid (HBP.out.trans (bpFrom_ok hjl hp))
          have hq : isTh ws (nth fr j) = true ∧ isTh ws (nth ot j) = true := by unfold pairB at hp; simpa using hp
          obtain ⟨hq1, hq2⟩ := hq
          go_wp2
          go_roundw
          case rel => exact ⟨j + 1, _, by omega, by go_num, rfl, HBN.out⟩
          case measure => simp [intOf]; omega
      · obtain rfl : j = fr.length := by omega
        have HBN := Lib.hid (HBP.out.trans bpFrom_end)
        go_wp2_with fail
        go_loopw [12] (fun i wr => ∃ q m : Nat, q ≤ fr.length ∧ i = .int .i64 q ∧ wr = w1.drewN m ∧ btFrom fr ot both 0 = btFrom fr ot both q) (fun i _ => fr.length - (intOf i).toNat)
        case atStart => exact ⟨0, _, Nat.zero_le _, rfl, rfl, rfl⟩
        case round =>
          obtain ⟨q, m, hq, rfl, rfl, hbt⟩ := hrel
          have HBT := Lib.hid hbt; clear hbt
          by_cases hql : q < fr.length
          · obtain ⟨b1, o1, rfl, _, r1⟩ := HA.out (by omega)
            obtain ⟨b2, o2, rfl, _, r2⟩ := HB.out (by omega)
            have e1 := r1 q hql
            have e2 := r2 q (by omega)
            have HRA := Lib.hid r1; have HRB := Lib.hid r2
            clear r1 r2
            have g1 : (0 : Int) ≤ (q : Int) := by omega
            have g2 : (q : Int) < (fr.length : Int) := by omega
            have g3 : (q : Int) < (ot.length : Int) := by omega
            have hd0 : dupB fr ot both q 0 = (both && nth fr q == nth ot q) := rfl
            have HD0 := Lib.hid hd0; clear hd0
            cases both
            · go_wp2_with fail
              go_quiet (fail)
              go_wp2_with fail
              go_loopw [13, 14] (fun v i wr => ∃ (k m : Nat) (d : Bool), k ≤ q ∧ i = .int .i64 k ∧ v = .bool d ∧ wr = w1.drewN m ∧ d = dupB fr ot false q k) (fun _ i _ => q - (intOf i).toNat)
              case atStart => exact ⟨0, _, _, Nat.zero_le _, rfl, rfl, drew2 _ _ _, by rw [HD0.out]; simp⟩
              case round =>
                obtain ⟨k, m, d, hk, rfl, rfl, rfl, hd⟩ := hrel
                have HD := Lib.hid hd; clear hd
                by_cases hkq : k < q
                · have e3 := HRA.out k (by omega)
                  have e4 := HRB.out k (by omega)
                  have g4 : (0 : Int) ≤ (k : Int) := by omega
                  have g5 : (k : Int) < (fr.length : Int) := by omega
                  have g6 : (k : Int) < (ot.length : Int) := by omega
                  cases d
                  · cases ha : (nth fr k == nth fr q)
                    · go_wp2_with fail
                      go_quiet (fail)
                      go_wp2
                      go_roundw
                      case rel => exact ⟨k + 1, _, _, by omega, by go_num, rfl, rfl, by rw [dupB, ← HD.out]; simp [*]⟩
                      case measure => simp [intOf]; omega
                    · go_wp2_with fail
                      go_quiet (fail)
                      go_wp2
                      go_roundw
                      case rel => exact ⟨k + 1, _, _, by omega, by go_num, rfl, rfl, by rw [dupB, ← HD.out]; simp [*]⟩
                      case measure => simp [intOf]; omega
                  · go_wp2_with fail
                    go_quiet (fail)
                    go_wp2
                    go_roundw
                    case rel => exact ⟨k + 1, _, _, by omega, by go_num, rfl, rfl, by rw [dupB, ← HD.out]; simp [*]⟩
                    case measure => simp [intOf]; omega
                · obtain rfl : k = q := by omega
                  cases d
                  · have ht : ¬ Twice fr ot false k := fun h => by have := HD.out.trans (dupB_twice.2 h); cases this
                    have HBU := Lib.hid (HBT.out.trans (btFrom_ok hql ht))
                    clear ht
                    go_wp2
                    go_roundw
                    case rel => exact ⟨k + 1, _, by omega, by go_num, rfl, HBU.out⟩
                    case measure => simp [intOf]; omega
                  · have HBU := Lib.hid (HBT.out.trans (btFrom_no hql (dupB_twice.1 HD.out.symm)))
                    have HE := Lib.hid (wrongF_twice (ws := ws) HLEN.out HBN.out HBU.out)
                    go_wp2
                    refine bodyPost_ret (v := fltV 5 k) (by simp [results, Try.results67, go_sem, fltV, y1, y2]) rfl ⟨by rw [HE.out], ?_⟩
                    repeat (first | exact HX0.out | refine Below.setCell ?_ (by dsimp only; omega) _ | refine Below.drew ?_ | exact HX0.out.trans (belowN _ _ _))
            · go_wp2_with fail
              go_quiet (fail)
              go_wp2_with fail
              go_loopw [13, 14] (fun v i wr => ∃ (k m : Nat) (d : Bool), k ≤ q ∧ i = .int .i64 k ∧ v = .bool d ∧ wr = w1.drewN m ∧ d = dupB fr ot true q k) (fun _ i _ => q - (intOf i).toNat)
              case atStart => exact ⟨0, _, _, Nat.zero_le _, rfl, rfl, drew2 _ _ _, by rw [HD0.out]; simp⟩
              case round =>
                obtain ⟨k, m, d, hk, rfl, rfl, rfl, hd⟩ := hrel
                have HD := Lib.hid hd; clear hd
                by_cases hkq : k < q
                · have e3 := HRA.out k (by omega)
                  have e4 := HRB.out k (by omega)
                  have g4 : (0 : Int) ≤ (k : Int) := by omega
                  have g5 : (k : Int) < (fr.length : Int) := by omega
                  have g6 : (k : Int) < (ot.length : Int) := by omega
                  cases d
                  · cases ha : (nth fr k == nth fr q)
                    · cases hb1 : (nth fr k == nth ot q)
                      · cases hb2 : (nth ot k == nth fr q)
                        · cases hb3 : (nth ot k == nth ot q)
                          · go_wp2_with fail
                            go_quiet (fail)
                            go_wp2
                            go_roundw
                            case rel => exact ⟨k + 1, _, _, by omega, by go_num, rfl, rfl, by rw [dupB, ← HD.out]; simp [*]⟩
                            case measure => simp [intOf]; omega
                          · go_wp2_with fail
                            go_quiet (fail)
                            go_wp2
                            go_roundw
                            case rel => exact ⟨k + 1, _, _, by omega, by go_num, rfl, rfl, by rw [dupB, ← HD.out]; simp [*]⟩
                            case measure => simp [intOf]; omega
                        · go_wp2_with fail
                          go_quiet (fail)
                          go_wp2
                          go_roundw
                          case rel => exact ⟨k + 1, _, _, by omega, by go_num, rfl, rfl, by rw [dupB, ← HD.out]; simp [*]⟩
                          case measure => simp [intOf]; omega
                      · go_wp2_with fail
                        go_quiet (fail)
                        go_wp2
                        go_roundw
                        case rel => exact ⟨k + 1, _, _, by omega, by go_num, rfl, rfl, by rw [dupB, ← HD.out]; simp [*]⟩
                        case measure => simp [intOf]; omega
                    · go_wp2_with fail
                      go_quiet (fail)
                      go_wp2
                      go_roundw
                      case rel => exact ⟨k + 1, _, _, by omega, by go_num, rfl, rfl, by rw [dupB, ← HD.out]; simp [*]⟩
                      case measure => simp [intOf]; omega
                  · go_wp2_with fail
                    go_quiet (fail)
                    go_wp2
                    go_roundw
                    case rel => exact ⟨k + 1, _, _, by omega, by go_num, rfl, rfl, by rw [dupB, ← HD.out]; simp [*]⟩
                    case measure => simp [intOf]; omega
                · obtain rfl : k = q := by omega
                  cases d
                  · have ht : ¬ Twice fr ot true k := fun h => by have := HD.out.trans (dupB_twice.2 h); cases this
                    have HBU := Lib.hid (HBT.out.trans (btFrom_ok hql ht))
                    clear ht
                    go_wp2
                    go_roundw
                    case rel => exact ⟨k + 1, _, by omega, by go_num, rfl, HBU.out⟩
                    case measure => simp [intOf]; omega
                  · have HBU := Lib.hid (HBT.out.trans (btFrom_no hql (dupB_twice.1 HD.out.symm)))
                    have HE := Lib.hid (wrongF_twice (ws := ws) HLEN.out HBN.out HBU.out)
                    go_wp2
                    refine bodyPost_ret (v := fltV 5 k) (by simp [results, Try.results67, go_sem, fltV, y1, y2]) rfl ⟨by rw [HE.out], ?_⟩
                    repeat (first | exact HX0.out | refine Below.setCell ?_ (by dsimp only; omega) _ | refine Below.drew ?_ | exact HX0.out.trans (belowN _ _ _))
          · obtain rfl : q = fr.length := by omega
            have HBU := Lib.hid (HBT.out.trans btFrom_end)
            have HE := Lib.hid (wrongF_ok HLEN.out HBN.out HBU.out)
            go_wp2
            refine bodyPost_ret (v := fltV 0 0) (by simp [results, Try.results67, go_sem, fltV, y1, y2]) rfl ⟨by rw [HE.out], ?_⟩
            repeat (first | exact HX0.out | refine Below.setCell ?_ (by dsimp only; omega) _ | refine Below.drew ?_ | exact HX0.out.trans (belowN _ _ _))
  · have hd : ((fr.length : Int) != (ot.length : Int)) = true := by simp; omega
    have HE := Lib.hid (wrongF_len (ws := ws) (both := both) hlen)
    obtain ⟨y1, y2, y3, y4, y5⟩ := HR2.out.f2
    go_enter Try.func67, Try.ntmps67
    go_wp2
    refine bodyPost_ret (v := fltV 1 0) (by simp [results, Try.results67, go_sem, fltV]) rfl ⟨by rw [HE.out], ?_⟩
    repeat (first | exact HX0.out | refine Below.setCell ?_ (by dsimp only; omega) _ | refine Below.alloc ?_ (by simp) _ | refine Below.alloc ?_ (Nat.le_refl _) _ | exact Below.refl _ _)
end
end Go.Proofs.Ytjpppdacamhhfaa
