/- A part of a row is turned by a map. Conditions: numbers of 64 bits. -/
import Derived.Test.YtjpppdacamhhfaaAsked
import Derived.Test.YtjpppdacamhhfaaBSpec2
namespace Go.Proofs.Ytjpppdacamhhfaa
open Go.RowKit
set_option linter.unusedVariables false

/-- The map answers as h says, or not at all where h turns nothing. -/
def Turns (f : Int → Option Value) (h : Int → Int) : Prop := ∀ o, f o = some (.int .i64 (h o)) ∨ (f o = none ∧ h o = o)

set_option maxRecDepth 100000 in
set_option maxHeartbeats 1000000 in
theorem turn_none (A : Option Addr) (c N : Nat) (w : World) :
    Calls Try.prog 166 #[.slice A 0 c, .pointer (some ⟨N, 0, none⟩)] w fun e w' => e = .returned (.tuple #[]) ∧ w = w' := by
  go_enter Try.func166, Try.ntmps166
  go_wp2_with fail
  refine wp_loop_rounds 1 ?_
  rw [rounds_succ]
  go_wp2
  go_end0
  exact ⟨rfl, rfl⟩

set_option maxRecDepth 100000 in
set_option maxHeartbeats 1000000 in
theorem turn_any (h : Int → Int) (xs : List Int) (base G cap off n c N M nM : Nat) (f : Int → Option Value) (w : World) (hO : Own w base (.slice (some ⟨G, 0, none⟩) xs.length cap) xs) (hx : I64 xs)
    (hoff : off + n ≤ xs.length) (hl : xs.length ≤ 1000000) (hN : Blk w N 110 #[.map (some M)]) (hM : MapI w M nM f) (ht : Turns f h) (hNG : N ≠ G) (hMG : M ≠ G) :
    Calls Try.prog 166 #[.slice (some ⟨G, off, none⟩) n c, .pointer (some ⟨N, 0, none⟩)] w fun e w' => e = .returned (.tuple #[]) ∧ Own w' base (.slice (some ⟨G, 0, none⟩) xs.length cap) (mapSeg h xs off n) ∧ w.grownBy w' (some G) := by
  have HX := Lib.hid hx; have HO := Lib.hid hO; have HN := Lib.hid hN; have HM := Lib.hid hM; have HT := Lib.hid ht
  clear hx hO hN hM ht
  go_enter Try.func166, Try.ntmps166
  go_wp2_with fail
  go_loopw [9] (fun s wr => ∃ k : Nat, k ≤ n ∧ s = .int .i64 k ∧ w.grownBy wr (some G) ∧ Own wr base (.slice (some ⟨G, 0, none⟩) xs.length cap) (mapSeg h xs off k)) (fun s _ => n - (intOf s).toNat)
  case atStart => exact ⟨0, Nat.zero_le _, rfl, World.grownBy.refl _ _, by rw [mapSeg_zero]; exact HO.out⟩
  case round =>
    obtain ⟨k, hk, rfl, hgr, hown⟩ := hrel
    have HG := Lib.hid hgr; have HW := Lib.hid hown
    clear hgr hown
    have hN1 := HN.out.grown HG.out (by simp; omega)
    obtain ⟨n1, n2, n3⟩ := hN1.f1
    clear hN1
    by_cases hlt : k < n
    · have hc := HW.out.cell (off + k) (by rw [mapSeg_len]; omega)
      rw [mapSeg_at (by omega)] at hc
      have hfz := HW.out.frz (off + k)
      obtain ⟨t1, t2⟩ := HX.out (off + k)
      have hrun := (HM.out.grown HG.out (by simp; omega)).look (t := 110) (e := 3) Try.underlying110 (zero3 _) true (nth xs (off + k)) t1 t2
      rcases HT.out (nth xs (off + k)) with hf | ⟨hf, hs⟩
      · rw [hf] at hrun
        simp only [Option.getD_some, if_true, Option.isSome_some] at hrun
        have HF := Lib.hid hf
        clear hf
        have hp := HW.out.put (off + k) (h (nth xs (off + k)))
        rw [← mapSeg_succ (by omega)] at hp
        have HP := Lib.hid hp
        clear hp
        go_wp2
        go_roundw
        case rel => exact ⟨k + 1, by omega, by go_num, grownBy_setCell HG.out (.inr rfl) _, HP.out⟩
        case measure => simp [intOf]; omega
      · rw [hf] at hrun
        simp only [Option.getD_none, if_true, Option.isSome_none] at hrun
        have HS := Lib.hid (mapSeg_same (off := off) (k := k) (by omega) hs)
        clear hf hs
        go_wp2
        go_roundw
        case rel => exact ⟨k + 1, by omega, by go_num, HG.out, by rw [HS.out]; exact HW.out⟩
        case measure => simp [intOf]; omega
    · obtain rfl : k = n := by omega
      go_wp2
      go_end0
      exact ⟨rfl, HW.out, HG.out⟩
end Go.Proofs.Ytjpppdacamhhfaa
