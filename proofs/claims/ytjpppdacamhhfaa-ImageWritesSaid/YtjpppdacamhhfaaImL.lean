/- image's reader: lists. Conditions: none. -/
import Derived.Test.YtjpppdacamhhfaaImR
namespace Go.Proofs.Ytjpppdacamhhfaa
open Go.RowKit
set_option linter.unusedVariables false

def addG (l : List Int) : Got (List Int) → Got (List Int)
  | .ok m a => .ok (l ++ m) a
  | .no c a => .no c a
theorem addG_ok {b l : List Int} {m p a : Nat} {y : Int} (h : rdN b p = .ok y a) : addG l (rdL b (m + 1) p) = addG (l ++ [y]) (rdL b m a) := by
  rw [rdL, h]
  simp only
  cases rdL b m a with
  | ok m' a' => simp [addG]
  | no c a' => rfl
theorem addG_no {b l : List Int} {m p a : Nat} {c : Int} (h : rdN b p = .no c a) : addG l (rdL b (m + 1) p) = .no c a := by
  rw [rdL, h]; rfl
def ListEnd (g : Nat) (A : Option Addr) (c : Nat) (b : List Int) (r : Got (List Int)) (w : World) (e : Ending) (w' : World) : Prop :=
  (∃ l a v, r = .ok l a ∧ a ≤ b.length ∧ e = .returned v ∧ Own w' w.heap.size v l ∧ RdI w' g A c b a ∧ Turned w w' (fun k => k = g)) ∨
  (∃ n a, r = .no n a ∧ e = .panicked [{ v := wrongV n a, recovered := false }] ∧ Turned w w' (fun k => k = g))

section
variable {g c : Nat} {A : Option Addr} {b : List Int} {at_ : Nat} {w : World} (h : RdI w g A c b at_) (hat : at_ ≤ b.length) (hbl : b.length ≤ 9223372036854775807) (hA : ∀ W, Turned w W (fun k => k = g) → IntsU W A b) (hb : ∀ j, 0 ≤ nth b j ∧ nth b j ≤ 255)
include h hat hbl hA hb
theorem rnum_ok {x : Int} {a : Nat} (hr : rdN b at_ = .ok x a) : Calls Try.prog 155 #[.pointer (some ⟨g, 0, none⟩)] w fun e w' => e = .returned (.int .i64 x) ∧ a ≤ b.length ∧ RdI w' g A c b a ∧ Turned w w' (fun k => k = g) :=
  (rnum_any g c A b at_ w h hat hbl hA hb).mono fun e w' h' => by
    rcases h' with ⟨x', a', e1, e2, e3, e4, e5⟩ | ⟨n, a', e1, _⟩
    · rw [hr] at e1; cases e1; exact ⟨e3, e2, e4, e5⟩
    · rw [hr] at e1; cases e1
theorem rnum_no {x : Int} {a : Nat} (hr : rdN b at_ = .no x a) : Calls Try.prog 155 #[.pointer (some ⟨g, 0, none⟩)] w fun e w' => e = .panicked [{ v := wrongV x a, recovered := false }] ∧ Turned w w' (fun k => k = g) :=
  (rnum_any g c A b at_ w h hat hbl hA hb).mono fun e w' h' => by
    rcases h' with ⟨x', a', e1, _⟩ | ⟨n, a', e1, e2, e3⟩
    · rw [hr] at e1; cases e1
    · rw [hr] at e1; cases e1; exact ⟨e2, e3⟩
end

set_option maxRecDepth 100000 in
set_option maxHeartbeats 4000000 in
theorem rlist_any (g c : Nat) (A : Option Addr) (b : List Int) (at_ least most : Nat) (w : World) (h : RdI w g A c b at_) (hat : at_ ≤ b.length) (hbl : b.length ≤ 9223372036854775807) (hA : ∀ W, Turned w W (fun k => k = g) → IntsU W A b) (hb : ∀ j, 0 ≤ nth b j ∧ nth b j ≤ 255)
    (hm : most ≤ 100000) (hlm : least ≤ 100000) : Calls Try.prog 126 #[.pointer (some ⟨g, 0, none⟩), .int .i64 least, .int .i64 most] w (ListEnd g A c b (rdList b at_ least most) w) := by
  have hglt := h.lt
  obtain ⟨x1, x2, x3, x4, x5⟩ := h.f2
  cases hr : rdN b at_ with
  | no n a =>
    have HC := Lib.hid (rnum_no h hat hbl hA hb hr)
    have hrd : rdList b at_ least most = .no n a := by unfold rdList; rw [hr]
    rw [hrd]
    clear h hA hb hr hrd
    go_enter Try.func126, Try.ntmps126
    go_wp2_with (go_at_call 155; refine HC.out.mono ?_; rintro e w1 ⟨rfl, ht1⟩; have HT1 := Lib.hid ht1; clear ht1)
    exact ⟨rfl, .inr ⟨n, a, rfl, rfl, HT1.out⟩⟩
  | ok n a =>
    have HC := Lib.hid (rnum_ok h hat hbl hA hb hr)
    by_cases hbad : n < (least : Int) ∨ (most : Int) < n
    · have hrd : rdList b at_ least most = .no 1 at_ := by unfold rdList; rw [hr]; simp only; rw [if_pos hbad]
      rw [hrd]
      by_cases hb1 : n < (least : Int)
      · clear h hA hb hr hrd
        go_enter Try.func126, Try.ntmps126
        go_wp2_with (first
          | (go_at_call 155; refine HC.out.mono ?_; rintro e w1 ⟨rfl, ha1, hr1, ht1⟩; have HT1 := Lib.hid ht1; clear ht1 hr1)
          | (go_at_call 125; refine (fail_any _ _ _ _).mono ?_; rintro e w' ⟨rfl, rfl⟩))
        exact ⟨rfl, .inr ⟨1, at_, rfl, rfl, HT1.out⟩⟩
      · have hb2 : (most : Int) < n := hbad.resolve_left hb1
        clear h hA hb hr hrd
        go_enter Try.func126, Try.ntmps126
        go_wp2_with (first
          | (go_at_call 155; refine HC.out.mono ?_; rintro e w1 ⟨rfl, ha1, hr1, ht1⟩; have HT1 := Lib.hid ht1; clear ht1 hr1)
          | (go_at_call 125; refine (fail_any _ _ _ _).mono ?_; rintro e w' ⟨rfl, rfl⟩))
        exact ⟨rfl, .inr ⟨1, at_, rfl, rfl, HT1.out⟩⟩
    · have hrd : rdList b at_ least most = rdL b n.toNat a := by unfold rdList; rw [hr]; simp only; rw [if_neg hbad]
      rw [hrd]
      obtain ⟨m, rfl⟩ : ∃ m : Nat, n = (m : Int) := ⟨n.toNat, by omega⟩
      rw [Int.toNat_natCast]
      have hm1 : ¬ (m : Int) < (least : Int) := fun e => hbad (.inl e)
      have hm2 : ¬ (most : Int) < (m : Int) := fun e => hbad (.inr e)
      have hm3 : ¬ m < least := by omega
      have hm4 : ¬ most < m := by omega
      have HA := Lib.hid hA; have HB := Lib.hid hb
      clear h hA hb hr hrd hbad
      go_enter Try.func126, Try.ntmps126
      go_wp2_with (go_at_call 155; refine HC.out.mono ?_; rintro e w1 ⟨rfl, ha1, hr1, ht1⟩; have HT1 := Lib.hid ht1; have HR1 := Lib.hid hr1; have hw1 := ht1.size; clear ht1 hr1; obtain ⟨w2, hrun2, hown2, hgr2⟩ := run_makeN w1 w1.heap.size m (by omega) (Nat.le_refl _); have hd2 : Turned w1 w2 (fun k => k = g) := (Turned.refl _ _).grown hgr2 (fun k hk => nomatch hk); have HT2 := Lib.hid (HT1.out.trans hd2 (fun _ _ e => e)); have HR2 := Lib.hid (HR1.out.grown hgr2 (fun e => nomatch e)); have HO2 := Lib.hid (hown2.mono hw1); clear hown2 hgr2 hd2)
      clear hrun2
      go_loopw [9, 30] (fun v i wr => ∃ (j p : Nat) (l : List Int), i = .int .i64 j ∧ j ≤ m ∧ l.length = j ∧ Own wr w.heap.size v l ∧ p ≤ b.length ∧ RdI wr g A c b p ∧ Turned w wr (fun k => k = g) ∧ rdL b m a = addG l (rdL b (m - j) p)) (fun _ i _ => m - (intOf i).toNat)
      case atStart =>
        refine ⟨0, a, [], rfl, Nat.zero_le _, rfl, HO2.out, ha1, HR2.out, HT2.out, ?_⟩
        show _ = addG [] (rdL b m a)
        cases rdL b m a <;> rfl
      case round =>
        obtain ⟨j, p, l, rfl, hj, hl, hown, hp, hr, ht, he⟩ := hrel
        have HOW := Lib.hid hown; have HRR := Lib.hid hr; have HT := Lib.hid ht; have HE := Lib.hid he; have HL := Lib.hid hl
        have hlt := hr.lt
        clear hown hr ht he hl HO2 HR2 HT2
        by_cases hjl : j < m
        · obtain ⟨m', hm'⟩ : ∃ m', m - j = m' + 1 := ⟨m - j - 1, by omega⟩
          have hAr : ∀ W, Turned wr W (fun k => k = g) → IntsU W A b := fun W h => HA.out W (HT.out.trans h (fun _ _ e => e))
          cases hrn : rdN b p with
          | no n a' =>
            have HC := Lib.hid (rnum_no HRR.out hp hbl hAr HB.out hrn)
            have hrd : rdL b m a = .no n a' := by rw [HE.out, hm', addG_no hrn]
            have HRD := Lib.hid hrd
            clear hrd hAr hrn
            go_wp2_with (go_at_call 155; refine HC.out.mono ?_; rintro e w3 ⟨rfl, ht3⟩; have HT3 := Lib.hid (HT.out.trans ht3 (fun _ _ e => e)); clear ht3)
            exact ⟨rfl, .inr ⟨n, a', HRD.out, rfl, HT3.out⟩⟩
          | ok y a' =>
            have HC := Lib.hid (rnum_ok HRR.out hp hbl hAr HB.out hrn)
            have hrd : rdL b m a = addG (l ++ [y]) (rdL b (m - (j + 1)) a') := by
              rw [HE.out, hm', addG_ok hrn, show m - (j + 1) = m' from by omega]
            have HRD := Lib.hid hrd
            have hlb : l.length ≤ 1000000000 := by have := HL.out; omega
            have HLB := Lib.hid hlb
            have hof : ∀ W, Turned wr W (fun k => k = g) → Own W w.heap.size u9 l ∧ Turned w W (fun k => k = g) ∧ w.heap.size ≤ (W.alloc (.cells #[.int .i64 y] 3)).heap.size := fun W h => by
              have ht9 := HT.out.trans h (fun _ _ e => e)
              refine ⟨h.own HOW.out (fun k hk => ?_), ht9, ?_⟩
              · have h1 := (HOW.out.lt k hk).1
                intro e; omega
              · rw [World.size_alloc]; have := ht9.size; omega
            have HOF := Lib.hid hof
            clear hrd hAr hrn hlb hof
            go_wp2_with (first
              | (go_at_call 155; refine HC.out.mono ?_; rintro e w3 ⟨rfl, ha3, hr3, ht3⟩; have HT3 := Lib.hid (HOF.out _ ht3).2.1; have HR3 := Lib.hid hr3; have HO3 := Lib.hid (HOF.out _ ht3).1; have hz3 := (HOF.out _ ht3).2.2; have HX3 := Lib.hid (cell_new w3 #[.int .i64 y] 3 (0, 0) 0); clear ht3 hr3)
              | (at_builtin; refine wpList_pushN rfl _ _ rfl w.heap.size _ l rfl (HO3.out.alloc _) w3.heap.size 1 y rfl HX3.out HLB.out hz3 ?_; intro g6 n6 cap6 w6 hown6 hg6 hgr6; have HO6 := Lib.hid hown6; have HR6 := Lib.hid ((HR3.out.alloc _).grown hgr6 (fun e => absurd (HO3.out.lt g e.symm).1 (Nat.not_le_of_lt hglt))); have HT6 := Lib.hid ((HT3.out.alloc (.cells #[.int .i64 y] 3)).grown hgr6 (fun k hk => .inr (HO3.out.lt k hk).1)); clear hown6 hgr6))
            go_roundw
            case rel =>
              exact ⟨j + 1, a', l ++ [y], by go_num, by omega, by rw [List.length_append, HL.out]; rfl, HO6.out, ha3, HR6.out, HT6.out, HRD.out⟩
            case measure => simp [intOf]; omega
        · have hjm : m - j = 0 := by omega
          have hrd : rdL b m a = .ok l p := by rw [HE.out, hjm, rdL]; simp [addG]
          have HRD := Lib.hid hrd
          clear hrd
          go_wp2_with fail
          refine bodyPost_ret (v := u9) (by simp [results, Try.results126, go_sem]) rfl (.inl ⟨l, p, u9, HRD.out, hp, rfl, HOW.out, HRR.out, HT.out⟩)
end Go.Proofs.Ytjpppdacamhhfaa
