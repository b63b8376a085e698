/- gessoref6's list. Conditions: bytes. -/
import Derived.Test.YtjpppdacamhhfaaImN
import Derived.BigRegion
namespace Go.Proofs.Ytjpppdacamhhfaa
open Go.RowKit
set_option linter.unusedVariables false

section
variable {c : Nat} {A : Option Addr} {b : List Int} {at_ : Nat} {w : World} (hat : at_ ≤ b.length) (hbl : b.length ≤ 9223372036854775807) (hA : IntsU w A b) (hb : ∀ j, 0 ≤ nth b j ∧ nth b j ≤ 255)
include hat hbl hA hb
theorem rrnum_ok {x : Int} {a : Nat} (hr : rdN b at_ = .ok x a) : Calls Try.prog 156 #[.slice A b.length c, .int .i64 at_] w fun e w' => e = .returned (.tuple #[.int .i64 x, .int .i64 ((a - at_ : Nat) : Int), fltV 0 0]) ∧ at_ ≤ a ∧ a ≤ b.length ∧ Below w.heap.size w w' :=
  (rrnum_any c A b at_ w hat hbl hA hb).mono fun e w' h => by
    obtain ⟨hx, ⟨x', a', e1, e2, e3, e4⟩ | ⟨n, a', e1, e2⟩⟩ := h
    · rw [hr] at e1; cases e1; exact ⟨e4, e2, e3, hx⟩
    · rw [hr] at e1; cases e1
theorem rrnum_no {x : Int} {a : Nat} (hr : rdN b at_ = .no x a) : Calls Try.prog 156 #[.slice A b.length c, .int .i64 at_] w fun e w' => e = .returned (.tuple #[.int .i64 0, .int .i64 0, fltV x a]) ∧ Below w.heap.size w w' :=
  (rrnum_any c A b at_ w hat hbl hA hb).mono fun e w' h => by
    obtain ⟨hx, ⟨x', a', e1, e2, e3, e4⟩ | ⟨n, a', e1, e2⟩⟩ := h
    · rw [hr] at e1; cases e1
    · rw [hr] at e1; cases e1; exact ⟨e2, hx⟩
end
def RListEnd (r : Got (List Int)) (len : Nat) (w : World) (e : Ending) (w' : World) : Prop :=
  Below w.heap.size w w' ∧ ((∃ l a v, r = .ok l a ∧ a ≤ len ∧ e = .returned (.tuple #[v, .int .i64 (a : Int), fltV 0 0]) ∧ Own w' w.heap.size v l) ∨
    (∃ n a, r = .no n a ∧ e = .returned (.tuple #[.slice none 0 0, .int .i64 0, fltV n a])))

set_option maxRecDepth 100000 in
set_option maxHeartbeats 4000000 in
theorem rrlist_any (c : Nat) (A : Option Addr) (b : List Int) (at_ least most : Nat) (w : World) (hat : at_ ≤ b.length) (hbl : b.length ≤ 9223372036854775807) (hA : IntsU w A b) (hb : ∀ j, 0 ≤ nth b j ∧ nth b j ≤ 255) (hm : most ≤ 100000) (hlm : least ≤ 100000) :
    Calls Try.prog 127 #[.slice A b.length c, .int .i64 at_, .int .i64 least, .int .i64 most] w (RListEnd (rdList b at_ least most) b.length w) := by
  have hx0 : Below w.heap.size w (w.alloc (.cells #[.int .i64 0, .int .i64 0] 36)) := (Below.refl _ _).alloc (Nat.le_refl _) _
  have HX0 := Lib.hid hx0
  have HF0 := Lib.hid (Blk.new w 36 #[.int .i64 0, .int .i64 0])
  have HA := Lib.hid hA; have HB := Lib.hid hb
  cases hr : rdN b at_ with
  | no n a =>
    have hn0 : n ≠ 0 := rdF_no _ _ _ hr
    have hn1 : (n != 0) = true := by simpa using hn0
    have hrd : rdList b at_ least most = .no n a := by unfold rdList; rw [hr]
    rw [hrd]
    have HC := Lib.hid (rrnum_no (c := c) hat hbl (hA.below hx0) hb hr)
    clear hA hb hr hrd hn0 hx0
    go_enter Try.func127, Try.ntmps127
    go_wp2_with fail
    refine HC.out.mono ?_
    rintro e w2 ⟨rfl, hb2⟩
    have hF2 := HF0.out.below hb2 HF0.out.lt
    have HX2 := Lib.hid (HX0.out.trans (hb2.mono HX0.out.size))
    have HF3 := Lib.hid (hF2.alloc (.cells #[.int .i64 n, .int .i64 a] 36))
    have HG3 := Lib.hid (Blk.new w2 36 #[.int .i64 n, .int .i64 a])
    have hlt2 : w.heap.size < w2.heap.size := hF2.lt
    have HX3 := Lib.hid (HX2.out.alloc (Nat.le_of_lt hlt2) (.cells #[.int .i64 n, .int .i64 a] 36))
    clear hb2 hF2 HX2
    unfold fltV
    go_wp2_with fail
    generalize (w2.alloc (.cells #[.int .i64 n, .int .i64 a] 36)) = w3 at *
    obtain ⟨z1, z2, z3, z4, z5⟩ := HF3.out.f2
    obtain ⟨y1, y2, y3, y4, y5⟩ := HG3.out.f2
    go_region
    all_goals (try go_wp2)
    all_goals
      refine bodyPost_ret (v := .tuple #[.slice none 0 0, .int .i64 0, fltV n a]) (by simp [results, Try.results127, go_sem, fltV, z1, z2]) rfl ⟨?_, .inr ⟨n, a, rfl, rfl⟩⟩
      repeat (first | exact HX3.out | refine Below.drew ?_ | refine Below.setCell ?_ (by dsimp only; omega) _)
  | ok n a =>
    have HC := Lib.hid (rrnum_ok (c := c) hat hbl (hA.below hx0) hb hr)
    have HRN := Lib.hid hr
    clear hA hb hr hx0
    go_enter Try.func127, Try.ntmps127
    go_wp2_with fail
    refine HC.out.mono ?_
    rintro e w2 ⟨rfl, ha1, ha2, hb2⟩
    have hF2 := HF0.out.below hb2 HF0.out.lt
    have HX2 := Lib.hid (HX0.out.trans (hb2.mono HX0.out.size))
    have HF3 := Lib.hid (hF2.alloc (.cells #[.int .i64 0, .int .i64 0] 36))
    have hlt2 : w.heap.size < w2.heap.size := hF2.lt
    have HX3 := Lib.hid (HX2.out.alloc (Nat.le_of_lt hlt2) (.cells #[.int .i64 0, .int .i64 0] 36))
    have hz3 : w.heap.size < (w2.alloc (.cells #[.int .i64 0, .int .i64 0] 36)).heap.size := by rw [World.size_alloc]; omega
    have hwa : IntKind.i64.wrap ((at_ : Int) + ((a - at_ : Nat) : Int)) = (a : Int) := by rw [show (at_ : Int) + ((a - at_ : Nat) : Int) = (a : Int) from by omega]; exact IntWalk.i64_in _ (by omega)
    have hF2' := Lib.hid hF2
    clear hb2 hF2 HC
    by_cases hbad : n < (least : Int) ∨ (most : Int) < n
    · have hrd : rdList b at_ least most = .no 1 at_ := by unfold rdList; rw [HRN.out]; simp only; rw [if_pos hbad]
      have HRD := Lib.hid hrd
      clear hrd
      by_cases hb1 : n < (least : Int)
      all_goals (
        try (have hb2 : (most : Int) < n := hbad.resolve_left hb1)
        clear hbad
        unfold fltV
        obtain ⟨z1, z2, z3, z4, z5⟩ := hF2'.out.f2
        have q9 := (((hF2'.out.set_ 0 (.int .i64 1)).set_ 1 (.int .i64 (at_ : Int))).alloc (.cells #[.int .i64 0, .int .i64 0] 36))
        have q91 := q9.cell 0; have q92 := q9.cell 1
        simp at q91 q92
        have Q91 := Lib.hid q91; have Q92 := Lib.hid q92
        clear q9 q91 q92
        go_wp2_with fail
        refine bodyPost_ret (v := .tuple #[.slice none 0 0, .int .i64 0, fltV 1 at_]) (by simp [results, Try.results127, go_sem, fltV, Q91.out, Q92.out]) rfl ⟨?_, .inr ⟨1, at_, HRD.out, rfl⟩⟩
        repeat (first | exact HX2.out | refine Below.drew ?_ | refine Below.setCell ?_ (by dsimp only; omega) _ | refine Below.alloc ?_ (by simp [World.setCell]; omega) _))
    · have hrd : rdList b at_ least most = rdL b n.toNat a := by unfold rdList; rw [HRN.out]; simp only; rw [if_neg hbad]
      obtain ⟨m, rfl⟩ : ∃ m : Nat, n = (m : Int) := ⟨n.toNat, by omega⟩
      rw [Int.toNat_natCast] at hrd
      have HRL := Lib.hid hrd
      have hm3 : ¬ m < least := by omega
      have hm4 : ¬ most < m := by omega
      have hmm : m ≤ 100000 := by omega
      clear hrd hbad HRN
      unfold fltV
      go_wp2_with fail
      generalize hw3 : (w2.alloc (.cells #[.int .i64 0, .int .i64 0] 36)) = w3 at *
      clear hw3 HX2
      generalize hN : w.heap.size = N at *
      have HN := Lib.hid hN
      clear hN hwa hF2' HX0 HF0
      go_loopw [1, 14, 15] (fun t v i wr => ∃ (j p : Nat) (l : List Int), t = .int .i64 (p : Int) ∧ i = .int .i64 (j : Int) ∧ j ≤ m ∧ l.length = j ∧ Own wr (N + 1) v l ∧ p ≤ b.length ∧ Blk wr N 36 #[.int .i64 0, .int .i64 0] ∧ Below N w wr ∧ rdL b m a = addG l (rdL b (m - j) p)) (fun _ _ i _ => m - (intOf i).toNat)
      case atStart =>
        refine ⟨0, a, [], rfl, rfl, Nat.zero_le _, rfl, Own.nil _ _, ha2, HF3.out, HX3.out, ?_⟩
        show _ = addG [] (rdL b m a)
        cases rdL b m a <;> rfl
      case round =>
        obtain ⟨j, p, l, rfl, rfl, hj, hl, hown, hp, hblk, hbw, he⟩ := hrel
        have HOW := Lib.hid hown; have HBK := Lib.hid hblk; have HBW := Lib.hid hbw; have HE := Lib.hid he; have HL := Lib.hid hl
        have hNlt := hblk.lt
        have hia := HA.out.below (by rw [HN.out]; exact hbw)
        obtain ⟨z1, z2, z3, z4, z5⟩ := hblk.f2
        clear hown hblk hbw he hl HF3 HX3 hz3 hlt2
        by_cases hjl : j < m
        · obtain ⟨m', hm'⟩ : ∃ m', m - j = m' + 1 := ⟨m - j - 1, by omega⟩
          cases hrn : rdN b p with
          | no n a' =>
            have hn0 : n ≠ 0 := rdF_no _ _ _ hrn
            have hn1 : (n != 0) = true := by simpa using hn0
            have HC := Lib.hid (rrnum_no (c := c) hp hbl hia HB.out hrn)
            have hrd : rdL b m a = .no n a' := by rw [HE.out, hm', addG_no hrn]
            have HRD := Lib.hid hrd
            clear hrd hia hrn hn0
            go_wp2_with fail
            refine HC.out.mono ?_
            rintro e w5 ⟨rfl, hb5⟩
            have hF5 := HBK.out.below hb5 HBK.out.lt
            have HX5 := Lib.hid (HBW.out.trans (hb5.mono (Nat.le_of_lt hNlt)))
            have HF6 := Lib.hid (hF5.alloc (.cells #[.int .i64 n, .int .i64 a'] 36))
            have HG6 := Lib.hid (Blk.new w5 36 #[.int .i64 n, .int .i64 a'])
            have hlt5 : N < w5.heap.size := hF5.lt
            have HX6 := Lib.hid (HX5.out.alloc (Nat.le_of_lt hlt5) (.cells #[.int .i64 n, .int .i64 a'] 36))
            clear hb5 hF5 HX5 z1 z2 z3 z4 z5
            unfold fltV
            go_wp2_with fail
            generalize (w5.alloc (.cells #[.int .i64 n, .int .i64 a'] 36)) = w6 at *
            obtain ⟨z1, z2, z3, z4, z5⟩ := HF6.out.f2
            obtain ⟨y1, y2, y3, y4, y5⟩ := HG6.out.f2
            go_region
            all_goals (try go_wp2)
            all_goals
              refine bodyPost_ret (v := .tuple #[.slice none 0 0, .int .i64 0, fltV n a']) (by simp [results, Try.results127, go_sem, fltV, z1, z2]) rfl ⟨?_, .inr ⟨n, a', HRL.out.trans HRD.out, rfl⟩⟩
              rw [HN.out]
              repeat (first | exact HX6.out | refine Below.drew ?_ | refine Below.setCell ?_ (by dsimp only; omega) _)
          | ok y a' =>
            have HC := Lib.hid (rrnum_ok (c := c) hp hbl hia HB.out hrn)
            have hrd : rdL b m a = addG (l ++ [y]) (rdL b (m - (j + 1)) a') := by
              rw [HE.out, hm', addG_ok hrn, show m - (j + 1) = m' from by omega]
            have HRD := Lib.hid hrd
            have hlb : l.length ≤ 1000000000 := by have := HL.out; omega
            have HLB := Lib.hid hlb
            clear hrd hia hrn hlb z1 z2 z3 z4 z5
            go_wp2_with fail
            refine HC.out.mono ?_
            rintro e w5 ⟨rfl, hp1, hp2, hb5⟩
            have hwa : IntKind.i64.wrap ((p : Int) + ((a' - p : Nat) : Int)) = (a' : Int) := by rw [show (p : Int) + ((a' - p : Nat) : Int) = (a' : Int) from by omega]; exact IntWalk.i64_in _ (by omega)
            have hF5 := HBK.out.below hb5 HBK.out.lt
            have hlt5 : N < w5.heap.size := hF5.lt
            have HX5 := Lib.hid (HBW.out.trans (hb5.mono (Nat.le_of_lt hNlt)))
            have HO6 := Lib.hid (((HOW.out.below hb5 (fun k hk => (HOW.out.lt k hk).2)).alloc (.cells #[.int .i64 0, .int .i64 0] 36)).alloc (.cells #[.int .i64 y] 3))
            have HF6 := Lib.hid ((hF5.alloc (.cells #[.int .i64 0, .int .i64 0] 36)).alloc (.cells #[.int .i64 y] 3))
            have HX6 := Lib.hid ((HX5.out.alloc (Nat.le_of_lt hlt5) (.cells #[.int .i64 0, .int .i64 0] 36)).alloc (by rw [World.size_alloc]; omega) (.cells #[.int .i64 y] 3))
            have hx6 := cell_new (w5.alloc (.cells #[.int .i64 0, .int .i64 0] 36)) #[.int .i64 y] 3 (0, 0) 0
            rw [World.size_alloc] at hx6
            have HXC := Lib.hid hx6
            have hz6 : N + 1 ≤ ((w5.alloc (.cells #[.int .i64 0, .int .i64 0] 36)).alloc (.cells #[.int .i64 y] 3)).heap.size := by rw [World.size_alloc, World.size_alloc]; omega
            clear hb5 hF5 HX5 hx6
            unfold fltV
            go_wp2_with (at_builtin; refine wpList_pushN rfl _ _ rfl (N + 1) _ l rfl HO6.out (w5.heap.size + 1) 1 y rfl HXC.out HLB.out hz6 ?_; intro g7 n7 cap7 w7 hown7 hg7 hgr7; have HO7 := Lib.hid hown7; have HF7 := Lib.hid (HF6.out.grown hgr7 (fun e => absurd (HO6.out.lt N e.symm).1 (Nat.not_succ_le_self N))); have HX7 := Lib.hid (HX6.out.grown hgr7 (Nat.le_of_lt hz6) (fun q hq => Nat.le_of_lt (HO6.out.lt q hq).1)); clear hown7 hgr7)
            go_roundw
            case rel => exact ⟨j + 1, a', l ++ [y], by first | rfl | (rw [hwa]), by go_num, by omega, by rw [List.length_append, HL.out]; rfl, HO7.out, hp2, HF7.out, HX7.out, HRD.out⟩
            case measure => simp [intOf]; omega
        · have hjm : m - j = 0 := by omega
          have hrd : rdL b m a = .ok l p := by rw [HE.out, hjm, rdL]; simp [addG]
          have HRD := Lib.hid hrd
          clear hrd hia
          go_wp2_with fail
          refine bodyPost_ret (v := .tuple #[u14, .int .i64 (p : Int), fltV 0 0]) (by simp [results, Try.results127, go_sem, fltV, z1, z2]) rfl ⟨?_, .inl ⟨l, p, u14, HRL.out.trans HRD.out, hp, rfl, ?_⟩⟩
          · rw [HN.out]
            repeat (first | exact HBW.out | refine Below.drew ?_ | refine Below.setCell ?_ (by dsimp only; omega) _)
          · rw [HN.out]
            have hoo := HOW.out.mono (Nat.le_succ N)
            repeat (first | exact hoo | refine Own.setCell ?_ _ (fun e => absurd (HOW.out.lt _ e).1 (Nat.not_succ_le_self N)) _)
end Go.Proofs.Ytjpppdacamhhfaa
