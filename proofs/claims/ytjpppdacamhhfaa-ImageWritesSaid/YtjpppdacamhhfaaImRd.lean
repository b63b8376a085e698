/- image.Read. Conditions: bytes. -/
import Derived.Test.YtjpppdacamhhfaaImD
import Derived.Test.YtjpppdacamhhfaaRoots
import Derived.Lib.SlBytesConst
namespace Go.Proofs.Ytjpppdacamhhfaa
open Go.RowKit
set_option linter.unusedVariables false

/-- What reading an image tells. -/
def ReadTold (b : List Int) (w : World) (e : Ending) (w' : World) : Prop :=
  ∃ v1 v2, e = .returned (.tuple #[.agg #[v1], v2, fltV (imgF b).1.1 (imgF b).1.2]) ∧ Own w' w.heap.size v1 (imgF b).2.1 ∧ Own w' w.heap.size v2 (imgF b).2.2 ∧ Below w.heap.size w w'

theorem zz_i64 {x : Int} (h : zz x < 128 ^ 9) : -9223372036854775808 ≤ x ∧ x ≤ 9223372036854775807 := by
  have e9 : (128 : Nat) ^ 9 = 9223372036854775808 := by decide
  rw [e9] at h
  unfold zz at h
  split at h <;> omega
theorem rdL_bd {b : List Int} (hb : ∀ j, 0 ≤ nth b j ∧ nth b j ≤ 255) : ∀ {n at_ : Nat} {l : List Int} {a : Nat}, rdL b n at_ = .ok l a → ∀ x ∈ l, -9223372036854775808 ≤ x ∧ x ≤ 9223372036854775807
  | 0, at_, l, a, h => by
    rw [rdL] at h
    cases h
    intro x hx; simp at hx
  | n + 1, at_, l, a, h => by
    rw [rdL] at h
    split at h
    · cases h
    · rename_i x a1 h1
      split at h
      · cases h
      · rename_i l2 a2 h2
        cases h
        intro y hy
        rcases List.mem_cons.1 hy with rfl | hy
        · exact zz_i64 (rdN_ok hb h1).2.2
        · exact rdL_bd hb h2 y hy
theorem i64_of_mem {l : List Int} (h : ∀ x ∈ l, -9223372036854775808 ≤ x ∧ x ≤ 9223372036854775807) : I64 l := fun j => by
  by_cases hj : j < l.length
  · rw [nth_eq hj]; exact h _ (List.getElem_mem hj)
  · unfold nth; rw [List.getD_eq_getElem?_getD, List.getElem?_eq_none (by omega)]; simp
theorem rdList_i64 {b l : List Int} {at_ least most a : Nat} (hb : ∀ j, 0 ≤ nth b j ∧ nth b j ≤ 255) (h : rdList b at_ least most = .ok l a) : I64 l := by
  unfold rdList at h
  split at h
  · cases h
  · split at h
    · cases h
    · exact i64_of_mem (rdL_bd hb h)

abbrev doorD (N : Nat) : List Deferred := [{ target := .fn (.func 124) #[.pointer (some ⟨N, 0, none⟩), .pointer (some ⟨N + 1, 0, none⟩), .pointer (some ⟨N + 1 + 1, 0, none⟩)], args := #[] }]
set_option maxRecDepth 100000 in
theorem door_panic {b : List Int} {w W : World} {N : Nat} {c : Int} {a : Nat} {u0 u1 u2 u3 : Value} {tmps : Array Value} (hN : w.heap.size = N) (h0 : Blk W N 33 #[u0]) (h1 : Blk W (N + 1) 22 #[u1]) (h2 : Blk W (N + 1 + 1) 36 #[u2, u3]) (hb : Below N w W)
    (hF : imgF b = ((c, a), [], [])) (t2 : tmps[2]? = some (.pointer (some ⟨N, 0, none⟩))) (t3 : tmps[3]? = some (.pointer (some ⟨N + 1, 0, none⟩))) (t4 : tmps[4]? = some (.pointer (some ⟨N + 1 + 1, 0, none⟩))) :
    Leaves Try.prog Try.f72 tmps (ReadTold b w) (doorD N) (.panicking [{ v := wrongV c a, recovered := false }]) W := by
  refine leaves_cons (f := 124) (args := #[.pointer (some ⟨N, 0, none⟩), .pointer (some ⟨N + 1, 0, none⟩), .pointer (some ⟨N + 1 + 1, 0, none⟩)]) (by simp) (by simp [go_sem]) ?_
  refine (catch_panicking N (N + 1) (N + 1 + 1) c a u0 u1 u2 u3 [] W h0 h1 h2 (by omega) (by omega) (by omega)).mono ?_
  rintro e u' w' ⟨rfl, rfl, q0, q1, q2, qt⟩
  obtain ⟨x1, x2, x3⟩ := q0.f1
  obtain ⟨y1, y2, y3⟩ := q1.f1
  obtain ⟨z1, z2, z3, z4, z5⟩ := q2.f2
  have hr : (results Try.f72 tmps).run Try.prog w' = .ok (.tuple #[.agg #[.slice none 0 0], .slice none 0 0, fltV c a]) w' := by simp [results, Try.results72, go_sem, fltV, t2, t3, t4, x1, y1, z1, z2]
  have hbl : Below w.heap.size w w' := by
    rw [hN]
    exact hb.trans (qt.below (Nat.le_of_lt h0.lt) (fun k hk e => by omega))
  have hR : ReadTold b w (.returned (.tuple #[.agg #[.slice none 0 0], .slice none 0 0, fltV c a])) w' := by
    unfold ReadTold
    rw [hF]
    exact ⟨_, _, rfl, Own.nil _ _, Own.nil _ _, hbl⟩
  exact ⟨_, hr, hR⟩
set_option maxRecDepth 100000 in
theorem door_ret {b : List Int} {w W : World} {N : Nat} {u0 u1 : Value} {tmps : Array Value} (hN : w.heap.size = N) (h0 : Blk W N 33 #[u0]) (h1 : Blk W (N + 1) 22 #[u1]) (h2 : Blk W (N + 1 + 1) 36 #[.int .i64 0, .int .i64 0]) (hb : Below N w W)
    (hF : (imgF b).1 = (0, 0)) (ho0 : Own W N u0 (imgF b).2.1) (ho1 : Own W N u1 (imgF b).2.2) (t2 : tmps[2]? = some (.pointer (some ⟨N, 0, none⟩))) (t3 : tmps[3]? = some (.pointer (some ⟨N + 1, 0, none⟩))) (t4 : tmps[4]? = some (.pointer (some ⟨N + 1 + 1, 0, none⟩))) :
    Leaves Try.prog Try.f72 tmps (ReadTold b w) (doorD N) .returning W := by
  refine leaves_cons (f := 124) (args := #[.pointer (some ⟨N, 0, none⟩), .pointer (some ⟨N + 1, 0, none⟩), .pointer (some ⟨N + 1 + 1, 0, none⟩)]) (by simp) (by simp [go_sem]) ?_
  refine (catch_idle _ _ _ W).mono ?_
  rintro e u' w' ⟨rfl, rfl, rfl⟩
  obtain ⟨x1, x2, x3⟩ := h0.f1
  obtain ⟨y1, y2, y3⟩ := h1.f1
  obtain ⟨z1, z2, z3, z4, z5⟩ := h2.f2
  have hr : (results Try.f72 tmps).run Try.prog w' = .ok (.tuple #[.agg #[u0], u1, fltV 0 0]) w' := by simp [results, Try.results72, go_sem, fltV, t2, t3, t4, x1, y1, z1, z2]
  subst hN
  exact ⟨_, hr, u0, u1, by rw [hF], ho0, ho1, hb⟩

theorem own_ints9 {w : World} {base n c : Nat} {A : Option Addr} {xs : List Int} (h : Own w base (.slice A n c) xs) : Ints w A xs ∧ n ≤ c := by
  obtain ⟨A', c', e, h1, h2, -⟩ := h.form2
  cases e
  exact ⟨h1, h2⟩
/-- The world in which Read's loop begins. -/
def readW (w : World) (v : Value) : World := ((((w.alloc (.cells #[.slice none 0 0] 33)).alloc (.cells #[.slice none 0 0] 22)).alloc (.cells #[.int .i64 0, .int .i64 0] 36)).alloc (.cells #[v, .int .i64 0] 146)).alloc (.cells #[.int .u8 71, .int .u8 69] 5 (2, 3))
theorem readW_facts (w : World) (v : Value) (N : Nat) (hN : w.heap.size = N) : Blk (readW w v) N 33 #[.slice none 0 0] ∧ Blk (readW w v) (N + 1) 22 #[.slice none 0 0] ∧ Blk (readW w v) (N + 1 + 1) 36 #[.int .i64 0, .int .i64 0] ∧ Blk (readW w v) (N + 1 + 1 + 1) 146 #[v, .int .i64 0] ∧
    (readW w v).cell? ⟨N + 1 + 1 + 1 + 1, 0, none⟩ = some (.int .u8 71) ∧ (readW w v).cell? ⟨N + 1 + 1 + 1 + 1, 1, none⟩ = some (.int .u8 69) ∧ Below N w (readW w v) ∧ (readW w v).heap.size = N + 1 + 1 + 1 + 1 + 1 := by
  subst hN
  have h1 := Blk.new w 33 #[.slice none 0 0]
  have h2 := Blk.new (w.alloc (.cells #[.slice none 0 0] 33)) 22 #[.slice none 0 0]
  have h3 := Blk.new ((w.alloc (.cells #[.slice none 0 0] 33)).alloc (.cells #[.slice none 0 0] 22)) 36 #[.int .i64 0, .int .i64 0]
  have h4 := Blk.new (((w.alloc (.cells #[.slice none 0 0] 33)).alloc (.cells #[.slice none 0 0] 22)).alloc (.cells #[.int .i64 0, .int .i64 0] 36)) 146 #[v, .int .i64 0]
  have c0 := cell_new ((((w.alloc (.cells #[.slice none 0 0] 33)).alloc (.cells #[.slice none 0 0] 22)).alloc (.cells #[.int .i64 0, .int .i64 0] 36)).alloc (.cells #[v, .int .i64 0] 146)) #[.int .u8 71, .int .u8 69] 5 (2, 3) 0
  have c1 := cell_new ((((w.alloc (.cells #[.slice none 0 0] 33)).alloc (.cells #[.slice none 0 0] 22)).alloc (.cells #[.int .i64 0, .int .i64 0] 36)).alloc (.cells #[v, .int .i64 0] 146)) #[.int .u8 71, .int .u8 69] 5 (2, 3) 1
  simp only [World.size_alloc] at h2 h3 h4 c0 c1
  refine ⟨(((h1.alloc _).alloc _).alloc _).alloc _, ((h2.alloc _).alloc _).alloc _, (h3.alloc _).alloc _, h4.alloc _, c0, c1, ?_, by simp [readW]⟩
  exact (((((Below.refl _ _).alloc (Nat.le_refl _) _).alloc (by simp) _).alloc (by simp; omega) _).alloc (by simp; omega) _).alloc (by simp; omega) _

theorem list_no {g c : Nat} {A : Option Addr} {b : List Int} {n : Int} {a : Nat} {w w' : World} {e : Ending} (h : ListEnd g A c b (.no n a) w e w') : e = .panicked [{ v := wrongV n a, recovered := false }] ∧ Turned w w' (fun k => k = g) := by
  rcases h with ⟨l, a', v, e1, _⟩ | ⟨n', a', e1, e2, e3⟩
  · cases e1
  · cases e1; exact ⟨e2, e3⟩
theorem list_ok {g c : Nat} {A : Option Addr} {b l : List Int} {a : Nat} {w w' : World} {e : Ending} (h : ListEnd g A c b (.ok l a) w e w') : ∃ A' c', e = .returned (.slice A' l.length c') ∧ Own w' w.heap.size (.slice A' l.length c') l ∧ l.length ≤ c' ∧ a ≤ b.length ∧ RdI w' g A c b a ∧ Turned w w' (fun k => k = g) := by
  rcases h with ⟨l', a', v, e1, e2, e3, e4, e5, e6⟩ | ⟨n', a', e1, _⟩
  · cases e1
    obtain ⟨A', c', rfl, -, hc, -⟩ := e4.form2
    exact ⟨A', c', e3, e4, hc, e2, e5, e6⟩
  · cases e1

set_option maxRecDepth 100000 in
set_option maxHeartbeats 8000000 in
theorem read_any (b : List Int) (A : Option Addr) (c : Nat) (w : World) (hA : IntsU w A b) (hbl : b.length ≤ 9223372036854775807) (hb : ∀ j, 0 ≤ nth b j ∧ nth b j ≤ 255) :
    Calls Try.prog 72 #[.slice A b.length c] w (ReadTold b w) := by
  have hmf : ∀ (fn : Fn) (first cap : Array Value) (w : World), (Instr.makeFunc fn first cap).run Try.prog w = .ok (.func fn first cap) w := fun _ _ _ _ => rfl
  have hcv := Go.Lib.run_convert_bytes_const (P := Try.prog) ((((w.alloc (.cells #[.slice none 0 0] 33)).alloc (.cells #[.slice none 0 0] 22)).alloc (.cells #[.int .i64 0, .int .i64 0] 36)).alloc (.cells #[.slice A b.length c, .int .i64 0] 146)) 70 5 #[.int .u8 71, .int .u8 69] 2 2 Try.underlying70 Try.underlying5
  simp only [World.size_alloc] at hcv
  have HA := Lib.hid hA; have HB := Lib.hid hb
  clear hA hb
  go_enter_defers Try.func72, Try.ntmps72
  go_wp2_with fail
  clear hcv hmf
  generalize hN : w.heap.size = N at *
  have HN := Lib.hid hN
  obtain ⟨h0, h1, h2, h3, l0, l1, hb5, hz5⟩ := readW_facts w (.slice A b.length c) N hN
  change Code.wp Try.prog _ _ _ (readW w (.slice A b.length c))
  generalize readW w (.slice A b.length c) = w5 at *
  have H0 := Lib.hid h0; have H1 := Lib.hid h1; have H2 := Lib.hid h2; have H3 := Lib.hid h3; have HX5 := Lib.hid hb5
  have HQ0 : Hid (¬ (fun k => k = N + 1 + 1 + 1) N) := fun e => by have h : N = N + 1 + 1 + 1 := e; omega
  have HQ1 : Hid (¬ (fun k => k = N + 1 + 1 + 1) (N + 1)) := fun e => by have h : N + 1 = N + 1 + 1 + 1 := e; omega
  have HQ2 : Hid (¬ (fun k => k = N + 1 + 1 + 1) (N + 1 + 1)) := fun e => by have h : N + 1 + 1 = N + 1 + 1 + 1 := e; omega
  clear h0 h1 h2 h3 hb5 hN
  go_loopw [17] (fun i wr => ∃ k : Nat, i = .int .i64 k ∧ k ≤ 2 ∧ w5 = wr ∧ (0 < k → 0 < b.length ∧ nth b 0 = 71) ∧ (1 < k → 1 < b.length ∧ nth b 1 = 69)) (fun i _ => 2 - (intOf i).toNat)
  case atStart => exact ⟨0, rfl, by omega, rfl, fun h => absurd h (by omega), fun h => absurd h (by omega)⟩
  case round =>
    obtain ⟨k, rfl, hk, rfl, g0, g1⟩ := hrel
    rcases (show k = 0 ∨ k = 1 ∨ k = 2 by omega) with rfl | rfl | rfl
    · clear g0 g1
      by_cases hl : b.length = 0
      · have hF : imgF b = ((8, 0), [], []) := by unfold imgF; rw [if_neg (by omega), if_pos (by omega), hl]
        have HF := Lib.hid hF
        have hlb : ((0 : Int) == (b.length : Int)) = true := by simp; omega
        clear hF
        go_wp2_with (go_at_call 125; refine (fail_any _ _ _ _).mono ?_; rintro e w' ⟨rfl, rfl⟩)
        exact door_panic HN.out H0.out H1.out H2.out HX5.out HF.out rfl rfl rfl
      · obtain ⟨bb, oo, rfl, hbb, hrow⟩ := HA.out (by omega)
        have e0 := (hrow.below (by rw [HN.out]; exact HX5.out) hbb) 0 (by omega)
        rw [Nat.add_zero] at e0
        have hlb : ((0 : Int) == (b.length : Int)) = false := by simp; omega
        have hlp : (0 : Int) < (b.length : Int) := by omega
        clear hrow
        by_cases h71 : nth b 0 = 71
        · rw [h71] at e0
          have H71 := Lib.hid h71
          have hlq : 0 < b.length := by omega
          clear h71
          go_wp2_with fail
          go_roundw
          case rel => exact ⟨1, rfl, by omega, (by first | rfl | trivial), fun _ => ⟨hlq, H71.out⟩, fun h => absurd h (by omega)⟩
          case measure => simp [intOf]
        · have hF : imgF b = ((2, 0), [], []) := by unfold imgF; rw [if_pos (.inl ⟨by omega, h71⟩)]
          have HF := Lib.hid hF
          have hb71 : (nth b 0 != 71) = true := by simpa using h71
          clear hF h71
          generalize nth b 0 = x at *
          go_wp2_with (go_at_call 125; refine (fail_any _ _ _ _).mono ?_; rintro e w' ⟨rfl, rfl⟩)
          exact door_panic HN.out H0.out H1.out H2.out HX5.out HF.out rfl rfl rfl
    · obtain ⟨p0, p1⟩ := g0 (by omega)
      clear g0 g1
      have P1 := Lib.hid p1
      by_cases hl : b.length = 1
      · have hF : imgF b = ((8, 1), [], []) := by unfold imgF; rw [if_neg (by rintro (⟨-, h⟩ | ⟨h, -⟩); exact h p1; omega), if_pos (by omega), hl]
        have HF := Lib.hid hF
        have hlb : ((1 : Int) == (b.length : Int)) = true := by simp; omega
        clear hF p1
        go_wp2_with (go_at_call 125; refine (fail_any _ _ _ _).mono ?_; rintro e w' ⟨rfl, rfl⟩)
        exact door_panic HN.out H0.out H1.out H2.out HX5.out HF.out rfl rfl rfl
      · obtain ⟨bb, oo, rfl, hbb, hrow⟩ := HA.out (by omega)
        have e0 := (hrow.below (by rw [HN.out]; exact HX5.out) hbb) 1 (by omega)
        have hlb : ((1 : Int) == (b.length : Int)) = false := by simp; omega
        have hlp : (1 : Int) < (b.length : Int) := by omega
        clear hrow
        by_cases h69 : nth b 1 = 69
        · rw [h69] at e0
          have H69 := Lib.hid h69
          have hlq : 1 < b.length := by omega
          clear h69 p1
          go_wp2_with fail
          go_roundw
          case rel => exact ⟨2, rfl, by omega, (by first | rfl | trivial), fun _ => ⟨p0, P1.out⟩, fun _ => ⟨hlq, H69.out⟩⟩
          case measure => simp [intOf]
        · have hF : imgF b = ((2, 0), [], []) := by unfold imgF; rw [if_pos (.inr ⟨by omega, h69⟩)]
          have HF := Lib.hid hF
          have hb69 : (nth b 1 != 69) = true := by simpa using h69
          clear hF h69 p1
          generalize nth b 1 = x at *
          go_wp2_with (go_at_call 125; refine (fail_any _ _ _ _).mono ?_; rintro e w' ⟨rfl, rfl⟩)
          exact door_panic HN.out H0.out H1.out H2.out HX5.out HF.out rfl rfl rfl
    · obtain ⟨p0, p1⟩ := g0 (by omega)
      obtain ⟨p2, p3⟩ := g1 (by omega)
      have HC1 : Hid (¬ ((0 < b.length ∧ nth b 0 ≠ 71) ∨ (1 < b.length ∧ nth b 1 ≠ 69))) := by
        rintro (⟨-, h⟩ | ⟨-, h⟩)
        · exact h p1
        · exact h p3
      have hl2 : ¬ b.length < 2 := by omega
      clear g0 g1 p0 p1 p3 l0 l1
      obtain ⟨x1, x2, x3, x4, x5⟩ := H3.out.f2
      have hd6 : RdI (w5.setCell ⟨N + 1 + 1 + 1, 1, none⟩ (.int .i64 2)) (N + 1 + 1 + 1) A c b 2 := by
        have := H3.out.set_ 1 (.int .i64 2)
        simpa [RdI] using this
      have H06 := Lib.hid (H0.out.far (p := ⟨N + 1 + 1 + 1, 1, none⟩) (by dsimp only; omega) (.int .i64 2))
      have H16 := Lib.hid (H1.out.far (p := ⟨N + 1 + 1 + 1, 1, none⟩) (by dsimp only; omega) (.int .i64 2))
      have H26 := Lib.hid (H2.out.far (p := ⟨N + 1 + 1 + 1, 1, none⟩) (by dsimp only; omega) (.int .i64 2))
      have HX6 := Lib.hid (HX5.out.setCell (p := ⟨N + 1 + 1 + 1, 1, none⟩) (by dsimp only; omega) (.int .i64 2))
      have HRD6 := Lib.hid hd6
      clear hd6
      go_wp2_with fail
      clear x1 x2 x3 x4 x5 hz5
      generalize (w5.setCell ⟨N + 1 + 1 + 1, 1, none⟩ (.int .i64 2)) = w6 at *
      have hN6 : N ≤ w6.heap.size := Nat.le_of_lt H06.out.lt
      have hN6' : N + 1 + 1 + 1 < w6.heap.size := HRD6.out.lt
      have hbt : ∀ W, Turned w6 W (fun k => k = N + 1 + 1 + 1) → Below N w W := fun W h => HX6.out.trans (h.below hN6 (fun k hk e => by omega))
      have hcall : Calls Try.prog 126 #[.pointer (some ⟨N + 1 + 1 + 1, 0, none⟩), .int .i64 2, .int .i64 2000] w6 (ListEnd (N + 1 + 1 + 1) A c b (rdList b 2 2 2000) w6) :=
        rlist_any (N + 1 + 1 + 1) c A b 2 2 2000 w6 HRD6.out (by omega) hbl (fun W h => HA.out.below (by rw [HN.out]; exact hbt W h)) HB.out (by omega) (by omega)
      have HBT := Lib.hid hbt
      clear hbt
      cases hr1 : rdList b 2 2 2000 with
      | no n a =>
        rw [hr1] at hcall
        have hF : imgF b = ((n, a), [], []) := by unfold imgF; rw [if_neg HC1.out, if_neg hl2, hr1]
        have HF := Lib.hid hF; have HCALL := Lib.hid hcall
        clear hF hcall hr1
        go_wp2_with (go_at_call 126; with_reducible refine HCALL.out.mono ?_; intro e w7 h7; obtain ⟨rfl, ht7⟩ := list_no h7; have HT7 := Lib.hid ht7; clear ht7 h7)
        exact door_panic HN.out (HT7.out.blk H06.out HQ0.out) (HT7.out.blk H16.out HQ1.out) (HT7.out.blk H26.out HQ2.out) (HBT.out _ HT7.out) HF.out rfl rfl rfl
      | ok ws a =>
        rw [hr1] at hcall
        have HCALL := Lib.hid hcall; have HR1 := Lib.hid hr1
        clear hcall hr1
        go_wp2_with (go_at_call 126; with_reducible refine HCALL.out.mono ?_; intro e w7 h7; obtain ⟨A1, c1, rfl, ho7, hc1, ha7, hr7, ht7⟩ := list_ok h7; have HO7 := Lib.hid ho7; have HRD7 := Lib.hid hr7; have HT7 := Lib.hid ht7; obtain ⟨x1, x2, x3⟩ := (ht7.blk H06.out HQ0.out).f1; clear h7 ho7 hr7 ht7)
        clear x1 x2 x3
        have h08 : Blk (w7.setCell ⟨N, 0, none⟩ (.slice A1 ws.length c1)) N 33 #[.slice A1 ws.length c1] := (HT7.out.blk H06.out HQ0.out).set_ 0 _
        have H08 := Lib.hid h08
        have H18 := Lib.hid ((HT7.out.blk H16.out HQ1.out).far (p := ⟨N, 0, none⟩) (by dsimp only; omega) (.slice A1 ws.length c1))
        have H28 := Lib.hid ((HT7.out.blk H26.out HQ2.out).far (p := ⟨N, 0, none⟩) (by dsimp only; omega) (.slice A1 ws.length c1))
        have hrd8 : RdI (w7.setCell ⟨N, 0, none⟩ (.slice A1 ws.length c1)) (N + 1 + 1 + 1) A c b a := Blk.far HRD7.out (p := ⟨N, 0, none⟩) (by dsimp only; omega) (.slice A1 ws.length c1)
        have HRD8 := Lib.hid hrd8
        have HO8 := Lib.hid (HO7.out.setCell ⟨N, 0, none⟩ (fun e => by have := (HO7.out.lt N e).1; omega) (.slice A1 ws.length c1))
        have HX8 := Lib.hid ((HBT.out _ HT7.out).setCell (p := ⟨N, 0, none⟩) (Nat.le_refl _) (.slice A1 ws.length c1))
        have h68 := HT7.out.size
        have hz8 : (w7.setCell ⟨N, 0, none⟩ (.slice A1 ws.length c1)).heap.size = w7.heap.size := by simp [World.setCell]
        clear h08 hrd8 HCALL
        generalize (w7.setCell ⟨N, 0, none⟩ (.slice A1 ws.length c1)) = w8 at *
        have hbt : ∀ W, Turned w8 W (fun k => k = N + 1 + 1 + 1) → Below N w W := fun W h => HX8.out.trans (h.below (by omega) (fun k hk e => by omega))
        have hcall : Calls Try.prog 126 #[.pointer (some ⟨N + 1 + 1 + 1, 0, none⟩), .int .i64 0, .int .i64 600] w8 (ListEnd (N + 1 + 1 + 1) A c b (rdList b a 0 600) w8) :=
          rlist_any (N + 1 + 1 + 1) c A b a 0 600 w8 HRD8.out ha7 hbl (fun W h => HA.out.below (by rw [HN.out]; exact hbt W h)) HB.out (by omega) (by omega)
        have HBT8 := Lib.hid hbt
        clear hbt HT7 HRD7 HO7 H06 H16 H26 HBT HX6
        cases hr2 : rdList b a 0 600 with
        | no n a' =>
          rw [hr2] at hcall
          have hF : imgF b = ((n, a'), [], []) := by unfold imgF; rw [if_neg HC1.out, if_neg hl2, HR1.out]; simp only; rw [hr2]
          have HF := Lib.hid hF; have HCALL := Lib.hid hcall
          clear hF hcall hr2
          with_reducible refine HCALL.out.mono ?_
          intro e w9 h9
          obtain ⟨rfl, ht9⟩ := list_no h9
          exact door_panic HN.out (ht9.blk H08.out HQ0.out) (ht9.blk H18.out HQ1.out) (ht9.blk H28.out HQ2.out) (HBT8.out _ ht9) HF.out rfl rfl rfl
        | ok rs a' =>
          rw [hr2] at hcall
          have HCALL := Lib.hid hcall; have HR2 := Lib.hid hr2
          clear hcall hr2
          with_reducible refine HCALL.out.mono ?_
          intro e w9 h9
          obtain ⟨B1, d1, rfl, ho9, hd1, ha9, hr9, ht9⟩ := list_ok h9
          have HT9 := Lib.hid ht9; have HRD9 := Lib.hid hr9; have HOB9 := Lib.hid ho9
          have HOA9 := Lib.hid (ht9.own HO8.out (fun k hk e => by have h1 : k = N + 1 + 1 + 1 := e; have := (HO8.out.lt k hk).1; omega))
          obtain ⟨x1, x2, x3⟩ := (ht9.blk H18.out HQ1.out).f1
          have h89 := ht9.size
          clear h9 ho9 hr9 ht9 HCALL
          have h1a : Blk (w9.setCell ⟨N + 1, 0, none⟩ (.slice B1 rs.length d1)) (N + 1) 22 #[.slice B1 rs.length d1] := (HT9.out.blk H18.out HQ1.out).set_ 0 _
          have H0a := Lib.hid ((HT9.out.blk H08.out HQ0.out).far (p := ⟨N + 1, 0, none⟩) (by dsimp only; omega) (.slice B1 rs.length d1))
          have H1a := Lib.hid h1a
          have H2a := Lib.hid ((HT9.out.blk H28.out HQ2.out).far (p := ⟨N + 1, 0, none⟩) (by dsimp only; omega) (.slice B1 rs.length d1))
          have hrda : RdI (w9.setCell ⟨N + 1, 0, none⟩ (.slice B1 rs.length d1)) (N + 1 + 1 + 1) A c b a' := Blk.far HRD9.out (p := ⟨N + 1, 0, none⟩) (by dsimp only; omega) (.slice B1 rs.length d1)
          have HOAa := Lib.hid (HOA9.out.setCell ⟨N + 1, 0, none⟩ (fun e => by have := (HOA9.out.lt (N + 1) e).1; omega) (.slice B1 rs.length d1))
          have HOBa := Lib.hid (HOB9.out.setCell ⟨N + 1, 0, none⟩ (fun e => by have := (HOB9.out.lt (N + 1) e).1; omega) (.slice B1 rs.length d1))
          have HXa := Lib.hid ((HBT8.out _ HT9.out).setCell (p := ⟨N + 1, 0, none⟩) (by dsimp only; omega) (.slice B1 rs.length d1))
          obtain ⟨y1, y2, y3, y4, y5⟩ := hrda.f2
          obtain ⟨z1, z2, z3⟩ := H0a.out.f1
          obtain ⟨v1, v2, v3⟩ := h1a.f1
          have hFr : imgF b = if a' < b.length then ((9, a'), [], []) else if (rootsF ws rs).1 = 0 then ((0, 0), ws, rs) else (rootsF ws rs, [], []) := by
            unfold imgF; rw [if_neg HC1.out, if_neg hl2, HR1.out]; simp only; rw [HR2.out]
          have HFR := Lib.hid hFr
          clear h1a hrda hFr HT9 HRD9 HOA9 HOB9 HO8 H08 H18 H28 HBT8 HRD8 HX8
          by_cases hrest : a' < b.length
          · rw [if_pos hrest] at HFR
            have hrl : (a' : Int) < (b.length : Int) := by omega
            go_wp2_with (go_at_call 125; refine (fail_any _ _ _ _).mono ?_; rintro e w' ⟨rfl, rfl⟩)
            exact door_panic HN.out H0a.out H1a.out H2a.out HXa.out HFR.out rfl rfl rfl
          · rw [if_neg hrest] at HFR
            have hrl : ¬ (a' : Int) < (b.length : Int) := by omega
            have hia := (own_ints9 HOAa.out).1
            have hib := (own_ints9 HOBa.out).1
            have hsee := rsee_any ws rs A1 B1 c1 d1 (w9.setCell ⟨N + 1, 0, none⟩ (.slice B1 rs.length d1)) hia hc1 (rdList_i64 HB.out HR1.out) (by have := (rdList_ok HB.out HR1.out).2.1; omega) hib (rdList_i64 HB.out HR2.out) (by have := (rdList_ok HB.out HR2.out).2.1; omega)
            have HSEE := Lib.hid hsee
            clear hia hib hsee
            go_wp2_with fail
            clear x1 x2 x3 y1 y2 y3 y4 y5 z1 z2 z3 v1 v2 v3
            generalize (w9.setCell ⟨N + 1, 0, none⟩ (.slice B1 rs.length d1)) = w10 at *
            with_reducible refine HSEE.out.mono ?_
            rintro e w11 ⟨hb11, h⟩
            have H0b := Lib.hid (H0a.out.below hb11 H0a.out.lt); have H1b := Lib.hid (H1a.out.below hb11 H1a.out.lt); have H2b := Lib.hid (H2a.out.below hb11 H2a.out.lt)
            have hN10 : N ≤ w10.heap.size := Nat.le_of_lt H0a.out.lt
            have HXb := Lib.hid (HXa.out.trans (hb11.mono hN10))
            have HOAb := Lib.hid (HOAa.out.below hb11 (fun k hk => (HOAa.out.lt k hk).2)); have HOBb := Lib.hid (HOBa.out.below hb11 (fun k hk => (HOBa.out.lt k hk).2))
            have hN11 : N ≤ w11.heap.size := Nat.le_trans hN10 hb11.size
            clear hb11 HSEE H0a H1a H2a HXa HOAa HOBa
            rcases h with ⟨h0, rfl⟩ | ⟨h0, ga, rfl, hv⟩
            · have h1 : ((rootsF ws rs).1 != 0) = true := by simpa using h0
              rw [if_neg h0] at HFR
              clear h0
              unfold seeV fltV
              go_wp2_with fail
              exact door_panic (c := (rootsF ws rs).1) (a := (rootsF ws rs).2) HN.out (H0b.out.alloc _) (H1b.out.alloc _) (H2b.out.alloc _) (HXb.out.alloc hN11 _) HFR.out rfl rfl rfl
            · rw [if_pos h0] at HFR
              clear h0 hv
              obtain ⟨z1, z2, z3⟩ := (H0b.out.alloc (.cells #[.int .i64 0, .int .i64 0] 36)).f1
              obtain ⟨v1, v2, v3⟩ := (H1b.out.alloc (.cells #[.int .i64 0, .int .i64 0] 36)).f1
              obtain ⟨y1, y2, y3, y4, y5⟩ := (H2b.out.alloc (.cells #[.int .i64 0, .int .i64 0] 36)).f2
              unfold fltV
              go_wp2_with fail
              have HX12 := Lib.hid (HXb.out.alloc hN11 (.cells #[.int .i64 0, .int .i64 0] 36))
              have H0c := Lib.hid (H0b.out.alloc (.cells #[.int .i64 0, .int .i64 0] 36)); have H1c := Lib.hid (H1b.out.alloc (.cells #[.int .i64 0, .int .i64 0] 36)); have H2c := Lib.hid (H2b.out.alloc (.cells #[.int .i64 0, .int .i64 0] 36))
              have HOAc := Lib.hid (HOAb.out.alloc (.cells #[.int .i64 0, .int .i64 0] 36)); have HOBc := Lib.hid (HOBb.out.alloc (.cells #[.int .i64 0, .int .i64 0] 36))
              generalize (w11.alloc (.cells #[.int .i64 0, .int .i64 0] 36)) = w12 at *
              have s0 : w12.setCell ⟨N, 0, none⟩ (.slice A1 ws.length c1) = w12 := setCell_same H0c.out rfl
              have s1 : w12.setCell ⟨N + 1, 0, none⟩ (.slice B1 rs.length d1) = w12 := setCell_same H1c.out rfl
              have s2 : w12.setCell ⟨N + 1 + 1, 0, none⟩ (.int .i64 0) = w12 := setCell_same H2c.out rfl
              have s3 : w12.setCell ⟨N + 1 + 1, 1, none⟩ (.int .i64 0) = w12 := setCell_same H2c.out rfl
              go_region
              all_goals (try go_wp2)
              exact door_ret HN.out H0c.out.drew H1c.out.drew H2c.out.drew HX12.out.drew (by rw [HFR.out]) (by rw [HFR.out]; exact (HOAc.out.drewN 1).mono hN6) (by rw [HFR.out]; exact (HOBc.out.drewN 1).mono (by omega)) rfl rfl rfl
end Go.Proofs.Ytjpppdacamhhfaa
