/- image's writer. Conditions: none. -/
import Derived.Test.YtjpppdacamhhfaaMemV
import Derived.Test.YtjpppdacamhhfaaImSpec
import Derived.WalkArith
namespace Go.Proofs.Ytjpppdacamhhfaa
open Go.RowKit
set_option linter.unusedVariables false

theorem vb_len : ∀ (k u : Nat), u < 128 ^ (k + 1) → (vb u).length ≤ k + 1
  | 0, u, h => by rw [vb_low (by simpa using h)]; simp
  | k + 1, u, h => by
    by_cases hu : u < 128
    · rw [vb_low hu]; simp
    · rw [vb_high (by omega), List.length_cons]
      have := vb_len k (u / 128) (by rw [Nat.pow_succ] at h; omega)
      omega
theorem numB_len {n : Int} (h1 : -9223372036854775808 ≤ n) (h2 : n ≤ 9223372036854775807) : (numB n).length ≤ 10 := by
  have e : (128 : Nat) ^ 10 = 1180591620717411303424 := by decide
  exact vb_len 9 (zz n) (by rw [e]; unfold zz; split <;> omega)

theorem or_128 : ∀ a : Fin 256, bits .or .u8 ((a.val : Nat) : Int) 128 = ((a.val % 128 + 128 : Nat) : Int) := by decide +kernel
theorem or_byte (u : Nat) : bits .or .u8 ((u : Int) % 256) 128 = (u : Int) % 128 + 128 := by
  have h := or_128 ⟨u % 256, Nat.mod_lt _ (by decide)⟩
  have e : (u : Int) % 256 = ((u % 256 : Nat) : Int) := by omega
  rw [e, h]
  show ((u % 256 % 128 + 128 : Nat) : Int) = _
  omega
theorem xor_ones (b : Nat) (hb : b < 18446744073709551616) : bits .xor .u64 IntKind.u64.max (b : Int) = ((18446744073709551615 - b : Nat) : Int) := by
  show IntKind.u64.wrap ((BitVec.ofInt 64 IntKind.u64.max ^^^ BitVec.ofInt 64 (b : Int)).toNat : Int) = _
  have h1 : BitVec.ofInt 64 IntKind.u64.max = BitVec.allOnes 64 := by decide
  have h2 : (BitVec.ofInt 64 (b : Int)).toNat = b := by
    rw [BitVec.ofInt_natCast, BitVec.toNat_ofNat]; exact Nat.mod_eq_of_lt (by omega)
  rw [h1, BitVec.allOnes_xor, BitVec.toNat_not, h2, IntKind.wrap_u64]
  omega
theorem zz_neg {n : Int} (h1 : -9223372036854775808 ≤ n) (hn : n < 0) : bits .xor .u64 IntKind.u64.max (IntKind.u64.wrap (IntKind.u64.wrap n * 2)) = ((zz n : Nat) : Int) := by
  have e : IntKind.u64.wrap (IntKind.u64.wrap n * 2) = (((18446744073709551616 + 2 * n).toNat : Nat) : Int) := by rw [IntKind.wrap_u64, IntKind.wrap_u64]; omega
  rw [e, xor_ones _ (by omega)]
  unfold zz
  rw [if_neg (by omega)]
  omega
theorem zz_lt {n : Int} (h1 : -9223372036854775808 ≤ n) (h2 : n ≤ 9223372036854775807) : zz n < 18446744073709551616 := by unfold zz; split <;> omega

/-- A writer in block g, and what it has written. -/
def WrI (w : World) (g : Nat) (bs : List Int) : Prop := ∃ v, Blk w g 138 #[v] ∧ OwnV w (g + 1) v bs

set_option maxRecDepth 100000 in
set_option maxHeartbeats 1600000 in
theorem wnum_any (g : Nat) (bs : List Int) (n : Int) (w : World) (h : WrI w g bs) (hl : bs.length ≤ 100000000) (h1 : -9223372036854775808 ≤ n) (h2 : n ≤ 9223372036854775807) :
    Calls Try.prog 154 #[.pointer (some ⟨g, 0, none⟩), .int .i64 n] w fun e w' => e = .returned (.tuple #[]) ∧ WrI w' g (bs ++ numB n) ∧ Below g w w' := by
  have HW := Lib.hid h
  clear h
  have HZL := Lib.hid (zz_lt h1 h2)
  have HNL := Lib.hid (numB_len h1 h2)
  have hsg : IntKind.u64.signed = false := rfl
  by_cases hn : n < 0
  · have hz := zz_neg h1 hn
    go_enter Try.func154, Try.ntmps154
    go_wp2_with fail
    clear hz hn hsg
    have HNB := Lib.hid (show vb (zz n) = numB n from rfl)
    have hnl := HNL.out
    rw [← HNB.out] at hnl
    have HNL := Lib.hid hnl
    clear hnl
    generalize zz n = u0 at *
    go_loopw [4] (fun v wr => ∃ (u : Nat) (cs : List Int), v = .int .u64 u ∧ u < 18446744073709551616 ∧ WrI wr g (bs ++ cs) ∧ cs ++ vb u = vb u0 ∧ Below g w wr) (fun v _ => (intOf v).toNat)
    case atStart => exact ⟨u0, [], rfl, HZL.out, by rw [List.append_nil]; exact HW.out, rfl, Below.refl _ _⟩
    case round =>
      obtain ⟨u, cs, rfl, hu, hs, he, hb⟩ := hrel
      obtain ⟨v, hblk, hown⟩ := hs
      have HB := Lib.hid hb; have HO := Lib.hid hown; have HBK := Lib.hid hblk
      have hcl : cs.length ≤ 10 := by have h := HNL.out; rw [← he, List.length_append] at h; omega
      have HE := Lib.hid he
      have hgl := hblk.lt
      have hbl : (bs ++ cs).length ≤ 1000000000 := by rw [List.length_append]; omega
      have HBL := Lib.hid hbl
      obtain ⟨y1, y2, y3⟩ := hblk.f1
      clear hb hown hblk he hbl
      by_cases hc : u < 128
      · have hby : IntKind.u8.wrap (u : Int) = (u : Int) := by rw [IntKind.wrap_u8]; omega
        have hev : vb u = [(u : Int)] := vb_low hc
        have HEV := Lib.hid hev
        clear hev
        have hz6 : g + 1 ≤ (wr.alloc (.cells #[.int .u8 (u : Int)] 5)).heap.size := by rw [World.size_alloc]; omega
        have HX := Lib.hid (cell_new wr #[.int .u8 (u : Int)] 5 (0, 0) 0)
        go_wp2_with (at_builtin; refine wpList_pushV rfl _ _ rfl (g + 1) _ (bs ++ cs) rfl (HO.out.alloc _) wr.heap.size 1 (u : Int) rfl HX.out HBL.out hz6 ?_; intro g6 n6 cap6 w6 hown6 hg6 hgr6; have HO6 := Lib.hid hown6; have HBK6 := Lib.hid ((HBK.out.alloc _).below hgr6 (Nat.lt_succ_self g)); have HB6 := Lib.hid ((HB.out.alloc (by omega) _).trans (hgr6.mono (Nat.le_succ g))); obtain ⟨z1, z2, z3⟩ := HBK6.out.f1; clear hown6 hgr6)
        have hw9 : WrI (w6.setCell ⟨g, 0, none⟩ (.slice (some ⟨g6, 0, none⟩) n6 cap6)) g (bs ++ cs ++ [(u : Int)]) := ⟨_, HBK6.out.set_ 0 _, .inl (HO6.out.setCell _ (fun e => by cases e; omega) _)⟩
        rw [List.append_assoc] at hw9
        rw [show cs ++ [(u : Int)] = numB n from by rw [← HNB.out, ← HE.out, HEV.out]] at hw9
        go_end0
        exact ⟨rfl, hw9, HB6.out.setCell (Nat.le_refl _) _⟩
      · have hor := or_byte u
        have hdv : (u : Int).fdiv (2 ^ min (Int.toNat 7) IntKind.u64.bits) = ((u / 128 : Nat) : Int) := by
          show (u : Int).fdiv 128 = _
          rw [Int.fdiv_eq_ediv_of_nonneg _ (by omega)]; omega
        have hev : vb u = ((u : Int) % 128 + 128) :: vb (u / 128) := by rw [vb_high (by omega)]; congr 1
        have HEV := Lib.hid hev
        clear hev
        have hz6 : g + 1 ≤ (wr.alloc (.cells #[.int .u8 ((u : Int) % 128 + 128)] 5)).heap.size := by rw [World.size_alloc]; omega
        have HX := Lib.hid (cell_new wr #[.int .u8 ((u : Int) % 128 + 128)] 5 (0, 0) 0)
        go_wp2_with (at_builtin; refine wpList_pushV rfl _ _ rfl (g + 1) _ (bs ++ cs) rfl (HO.out.alloc _) wr.heap.size 1 ((u : Int) % 128 + 128) rfl HX.out HBL.out hz6 ?_; intro g6 n6 cap6 w6 hown6 hg6 hgr6; have HO6 := Lib.hid hown6; have HBK6 := Lib.hid ((HBK.out.alloc _).below hgr6 (Nat.lt_succ_self g)); have HB6 := Lib.hid ((HB.out.alloc (by omega) _).trans (hgr6.mono (Nat.le_succ g))); obtain ⟨z1, z2, z3⟩ := HBK6.out.f1; clear hown6 hgr6)
        have hw9 : WrI (w6.setCell ⟨g, 0, none⟩ (.slice (some ⟨g6, 0, none⟩) n6 cap6)) g (bs ++ cs ++ [((u : Int) % 128 + 128)]) := ⟨_, HBK6.out.set_ 0 _, .inl (HO6.out.setCell _ (fun e => by cases e; omega) _)⟩
        rw [List.append_assoc] at hw9
        have HW9 := Lib.hid hw9
        clear hw9
        go_roundw
        case rel => exact ⟨u / 128, cs ++ [((u : Int) % 128 + 128)], rfl, by omega, HW9.out, by rw [List.append_assoc, List.singleton_append, ← HEV.out]; exact HE.out, HB6.out.setCell (Nat.le_refl _) _⟩
        case measure => simp [intOf]; omega
  · have hz : n * 2 = ((zz n : Nat) : Int) := by unfold zz; rw [if_pos (by omega)]; omega
    go_enter Try.func154, Try.ntmps154
    go_wp2_with fail
    clear hz hn hsg
    have HNB := Lib.hid (show vb (zz n) = numB n from rfl)
    have hnl := HNL.out
    rw [← HNB.out] at hnl
    have HNL := Lib.hid hnl
    clear hnl
    generalize zz n = u0 at *
    go_loopw [4] (fun v wr => ∃ (u : Nat) (cs : List Int), v = .int .u64 u ∧ u < 18446744073709551616 ∧ WrI wr g (bs ++ cs) ∧ cs ++ vb u = vb u0 ∧ Below g w wr) (fun v _ => (intOf v).toNat)
    case atStart => exact ⟨u0, [], rfl, HZL.out, by rw [List.append_nil]; exact HW.out, rfl, Below.refl _ _⟩
    case round =>
      obtain ⟨u, cs, rfl, hu, hs, he, hb⟩ := hrel
      obtain ⟨v, hblk, hown⟩ := hs
      have HB := Lib.hid hb; have HO := Lib.hid hown; have HBK := Lib.hid hblk
      have hcl : cs.length ≤ 10 := by have h := HNL.out; rw [← he, List.length_append] at h; omega
      have HE := Lib.hid he
      have hgl := hblk.lt
      have hbl : (bs ++ cs).length ≤ 1000000000 := by rw [List.length_append]; omega
      have HBL := Lib.hid hbl
      obtain ⟨y1, y2, y3⟩ := hblk.f1
      clear hb hown hblk he hbl
      by_cases hc : u < 128
      · have hby : IntKind.u8.wrap (u : Int) = (u : Int) := by rw [IntKind.wrap_u8]; omega
        have hev : vb u = [(u : Int)] := vb_low hc
        have HEV := Lib.hid hev
        clear hev
        have hz6 : g + 1 ≤ (wr.alloc (.cells #[.int .u8 (u : Int)] 5)).heap.size := by rw [World.size_alloc]; omega
        have HX := Lib.hid (cell_new wr #[.int .u8 (u : Int)] 5 (0, 0) 0)
        go_wp2_with (at_builtin; refine wpList_pushV rfl _ _ rfl (g + 1) _ (bs ++ cs) rfl (HO.out.alloc _) wr.heap.size 1 (u : Int) rfl HX.out HBL.out hz6 ?_; intro g6 n6 cap6 w6 hown6 hg6 hgr6; have HO6 := Lib.hid hown6; have HBK6 := Lib.hid ((HBK.out.alloc _).below hgr6 (Nat.lt_succ_self g)); have HB6 := Lib.hid ((HB.out.alloc (by omega) _).trans (hgr6.mono (Nat.le_succ g))); obtain ⟨z1, z2, z3⟩ := HBK6.out.f1; clear hown6 hgr6)
        have hw9 : WrI (w6.setCell ⟨g, 0, none⟩ (.slice (some ⟨g6, 0, none⟩) n6 cap6)) g (bs ++ cs ++ [(u : Int)]) := ⟨_, HBK6.out.set_ 0 _, .inl (HO6.out.setCell _ (fun e => by cases e; omega) _)⟩
        rw [List.append_assoc] at hw9
        rw [show cs ++ [(u : Int)] = numB n from by rw [← HNB.out, ← HE.out, HEV.out]] at hw9
        go_end0
        exact ⟨rfl, hw9, HB6.out.setCell (Nat.le_refl _) _⟩
      · have hor := or_byte u
        have hdv : (u : Int).fdiv (2 ^ min (Int.toNat 7) IntKind.u64.bits) = ((u / 128 : Nat) : Int) := by
          show (u : Int).fdiv 128 = _
          rw [Int.fdiv_eq_ediv_of_nonneg _ (by omega)]; omega
        have hev : vb u = ((u : Int) % 128 + 128) :: vb (u / 128) := by rw [vb_high (by omega)]; congr 1
        have HEV := Lib.hid hev
        clear hev
        have hz6 : g + 1 ≤ (wr.alloc (.cells #[.int .u8 ((u : Int) % 128 + 128)] 5)).heap.size := by rw [World.size_alloc]; omega
        have HX := Lib.hid (cell_new wr #[.int .u8 ((u : Int) % 128 + 128)] 5 (0, 0) 0)
        go_wp2_with (at_builtin; refine wpList_pushV rfl _ _ rfl (g + 1) _ (bs ++ cs) rfl (HO.out.alloc _) wr.heap.size 1 ((u : Int) % 128 + 128) rfl HX.out HBL.out hz6 ?_; intro g6 n6 cap6 w6 hown6 hg6 hgr6; have HO6 := Lib.hid hown6; have HBK6 := Lib.hid ((HBK.out.alloc _).below hgr6 (Nat.lt_succ_self g)); have HB6 := Lib.hid ((HB.out.alloc (by omega) _).trans (hgr6.mono (Nat.le_succ g))); obtain ⟨z1, z2, z3⟩ := HBK6.out.f1; clear hown6 hgr6)
        have hw9 : WrI (w6.setCell ⟨g, 0, none⟩ (.slice (some ⟨g6, 0, none⟩) n6 cap6)) g (bs ++ cs ++ [((u : Int) % 128 + 128)]) := ⟨_, HBK6.out.set_ 0 _, .inl (HO6.out.setCell _ (fun e => by cases e; omega) _)⟩
        rw [List.append_assoc] at hw9
        have HW9 := Lib.hid hw9
        clear hw9
        go_roundw
        case rel => exact ⟨u / 128, cs ++ [((u : Int) % 128 + 128)], rfl, by omega, HW9.out, by rw [List.append_assoc, List.singleton_append, ← HEV.out]; exact HE.out, HB6.out.setCell (Nat.le_refl _) _⟩
        case measure => simp [intOf]; omega
theorem numBs_len {l : List Int} (h : ∀ x ∈ l, -9223372036854775808 ≤ x ∧ x ≤ 9223372036854775807) : (l.flatMap numB).length ≤ 10 * l.length := by
  induction l with
  | nil => simp
  | cons x l ih =>
    rw [List.flatMap_cons, List.length_append, List.length_cons]
    have h1 := numB_len (h x List.mem_cons_self).1 (h x List.mem_cons_self).2
    have h2 := ih (fun y hy => h y (List.mem_cons_of_mem _ hy))
    omega
theorem I64.mem {xs : List Int} (h : I64 xs) : ∀ x ∈ xs, -9223372036854775808 ≤ x ∧ x ≤ 9223372036854775807 := fun x hx => by
  obtain ⟨j, hj, rfl⟩ := List.getElem_of_mem hx
  have := h j
  rwa [nth_eq hj] at this

set_option maxRecDepth 100000 in
set_option maxHeartbeats 1600000 in
theorem wlist_any (g c : Nat) (A : Option Addr) (bs xs : List Int) (w : World) (h : WrI w g bs) (hl : bs.length ≤ 1000000) (hA : ∀ W, Below g w W → Ints W A xs) (hx : I64 xs) (hxl : xs.length ≤ 1000000) :
    Calls Try.prog 121 #[.pointer (some ⟨g, 0, none⟩), .slice A xs.length c] w fun e w' => e = .returned (.tuple #[]) ∧ WrI w' g (bs ++ listB xs) ∧ Below g w w' := by
  have HW := Lib.hid h; have HA := Lib.hid hA; have HX := Lib.hid hx
  have HC0 := Lib.hid (wnum_any g bs (xs.length : Nat) w h (by omega) (by omega) (by omega))
  have hnl := numB_len (n := (xs.length : Int)) (by omega) (by omega)
  have HNL := Lib.hid hnl
  have HM := Lib.hid (fun j => numBs_len (l := xs.take j) (fun x hx' => hx.mem x (List.mem_of_mem_take hx')))
  clear h hA hx hnl
  go_enter Try.func121, Try.ntmps121
  go_wp2_with (go_at_call 154; refine HC0.out.mono ?_; rintro e w1 ⟨rfl, hw1, hb1⟩; have HW1 := Lib.hid hw1; have HB1 := Lib.hid hb1; clear hw1 hb1)
  go_loopw [12] (fun i wr => ∃ j : Nat, i = .int .i64 j ∧ j ≤ xs.length ∧ WrI wr g (bs ++ numB xs.length ++ (xs.take j).flatMap numB) ∧ Below g w wr) (fun i _ => xs.length - (intOf i).toNat)
  case atStart => exact ⟨0, rfl, Nat.zero_le _, by rw [List.take_zero, List.flatMap_nil, List.append_nil]; exact HW1.out, HB1.out⟩
  case round =>
    obtain ⟨j, rfl, hj, hs, hb⟩ := hrel
    have HS := Lib.hid hs; have HB := Lib.hid hb
    clear hs hb
    by_cases hjl : j < xs.length
    · obtain ⟨b1, o1, hA1, -, r1⟩ := HA.out wr HB.out (by omega)
      subst hA1
      have e1 := r1 j hjl
      have hx1 := HX.out j
      have hcl : (bs ++ numB xs.length ++ (xs.take j).flatMap numB).length ≤ 100000000 := by
        have h1 := HM.out j
        have h2 := List.length_take_le j xs
        have h3 := HNL.out
        rw [List.length_append, List.length_append]; omega
      have HC := Lib.hid (wnum_any g _ (nth xs j) wr HS.out hcl hx1.1 hx1.2)
      have HTK : Hid (xs.take (j + 1) = xs.take j ++ [nth xs j]) := by
        show _ = _
        rw [nth_eq hjl]; exact List.take_succ_eq_append_getElem hjl
      clear r1 hx1 hcl
      go_wp2_with (go_at_call 154; refine HC.out.mono ?_; rintro e w2 ⟨rfl, hw2, hb2⟩; have HW2 := Lib.hid hw2; have HB2 := Lib.hid (HB.out.trans hb2); clear hw2 hb2)
      go_roundw
      case rel =>
        refine ⟨j + 1, by go_num, by omega, ?_, HB2.out⟩
        have h9 := HW2.out
        rw [HTK.out, List.flatMap_append]
        simpa using h9
      case measure => simp [intOf]; omega
    · obtain rfl : j = xs.length := by omega
      have hs := HS.out
      rw [List.take_length] at hs
      have HS9 : Hid (WrI wr g (bs ++ listB xs)) := by unfold listB; rw [← List.append_assoc]; exact hs
      clear hs
      go_wp2_with fail
      go_end0
      exact ⟨rfl, HS9.out, HB.out⟩
end Go.Proofs.Ytjpppdacamhhfaa
