/- The small functions round a heap: look, Check, Clone, Ints compute the plain functions. Conditions: the words are numbers of 64 bits. -/
import Derived.Test.YtjpppdacamhhfaaSee
import Derived.Test.YtjpppdacamhhfaaMem2
import Derived.WalkSpells
namespace Go.Proofs.Ytjpppdacamhhfaa
open Go.RowKit
set_option linter.unusedVariables false

/-- What was there is read as before. -/
theorem bcell {W w1 : World} (hb : Below W.heap.size W w1) : (∀ b o, b < W.heap.size → w1.cell? ⟨b, o, none⟩ = W.cell? ⟨b, o, none⟩) ∧ (∀ b o, b < W.heap.size → w1.frozen? ⟨b, o, none⟩ = W.frozen? ⟨b, o, none⟩) :=
  ⟨fun b o h => hb.cell (p := ⟨b, o, none⟩) h, fun b o h => hb.frozen (p := ⟨b, o, none⟩) h⟩

theorem checkF_zero {ws : List Int} (h : (checkF ws).1 = 0) : okB ws = true := by unfold okB; rw [h]; rfl
theorem checkF_ne {ws : List Int} (h : (checkF ws).1 ≠ 0) : okB ws = false := by
  unfold okB; simpa using h

/-- How look ends. -/
def LookEnd (ws : List Int) (w : World) (e : Ending) (w' : World) : Prop :=
  Below w.heap.size w w' ∧ ((okB ws = false ∧ e = .returned (.tuple #[.pointer none, .int .i64 7])) ∨
    (okB ws = true ∧ ∃ g, e = .returned (.tuple #[.pointer (some ⟨g, 0, none⟩), .int .i64 0]) ∧ ViewAt w' g ws))

set_option maxRecDepth 100000 in
theorem look_any (ws : List Int) (A : Option Addr) (c : Nat) (w : World) (hA : Ints w A ws) (hcap : ws.length ≤ c) (hw : I64 ws) (hl : ws.length ≤ 9223372036854775807) :
    Calls Try.prog 94 #[.agg #[.slice A ws.length c]] w (LookEnd ws w) := by
  have hA1 := hA.alloc (.cells #[.slice A ws.length c] 33)
  have HA1 := Lib.hid hA1; clear hA hA1
  have HW := Lib.hid hw; clear hw
  go_enter Try.func94, Try.ntmps94
  go_wp2_with fail
  refine (see_any ws A c _ HA1.out hcap HW.out hl).mono ?_
  rintro e w1 ⟨hb, h⟩
  have hb0 : Below w.heap.size w w1 := ((Below.refl _ _).alloc (Nat.le_refl _) _).trans (hb.mono (by simp))
  have HB := Lib.hid hb0
  rcases h with ⟨h0, rfl⟩ | ⟨h0, g, rfl, hv⟩
  · have h1 : ((checkF ws).1 != 0) = true := by simpa using h0
    have HOK := Lib.hid (checkF_ne h0)
    clear h0 hb0 hb
    unfold seeV fltV
    go_wp2
    go_ret2
    exact ⟨(HB.out.alloc HB.out.size _), .inl ⟨HOK.out, rfl⟩⟩
  · have HOK := Lib.hid (checkF_zero h0)
    have HV := Lib.hid hv
    clear h0 hb0 hb hv
    unfold fltV
    go_wp2
    go_ret2
    exact ⟨(HB.out.alloc HB.out.size _), .inr ⟨HOK.out, g, rfl, HV.out.below ((Below.refl _ _).alloc (Nat.le_refl _) _)⟩⟩

set_option maxRecDepth 100000 in
theorem check_any (ws : List Int) (A : Option Addr) (c : Nat) (w : World) (hA : Ints w A ws) (hcap : ws.length ≤ c) (hw : I64 ws) (hl : ws.length ≤ 9223372036854775807) :
    Calls Try.prog 41 #[.agg #[.slice A ws.length c]] w fun e w' => e = .returned (fltV (checkF ws).1 (checkF ws).2) ∧ Below w.heap.size w w' := by
  have hA1 := (hA.alloc (.cells #[.slice A ws.length c] 33)).alloc (.cells #[.int .i64 0, .int .i64 0] 36)
  have HA1 := Lib.hid hA1; clear hA hA1
  have HW := Lib.hid hw; clear hw
  go_enter Try.func41, Try.ntmps41
  go_wp2_with fail
  refine (see_any ws A c _ HA1.out hcap HW.out hl).mono ?_
  rintro e w1 ⟨hb, h⟩
  obtain ⟨hc, hf⟩ := bcell hb
  have hz : w.heap.size + 1 < w1.heap.size := by have := hb.size; simp at this; omega
  have hb0 : Below w.heap.size w w1 := (((Below.refl _ _).alloc (Nat.le_refl _) _).alloc (by simp) _).trans (hb.mono (by simp; omega))
  have HB := Lib.hid hb0; clear hb0
  have hq0 : w1.cell? ⟨w.heap.size + 1, 0, none⟩ = some (.int .i64 0) := (hc _ 0 (by simp)).trans (cell_new2 w _ _ _ _ 0)
  have hq1 : w1.cell? ⟨w.heap.size + 1, 1, none⟩ = some (.int .i64 0) := (hc _ 1 (by simp)).trans (cell_new2 w _ _ _ _ 1)
  have hk0 : w1.frozen? ⟨w.heap.size + 1, 0, none⟩ = false := (hf _ 0 (by simp)).trans (by simp)
  have hk1 : w1.frozen? ⟨w.heap.size + 1, 1, none⟩ = false := (hf _ 1 (by simp)).trans (by simp)
  clear hb hc hf
  rcases h with ⟨h0, rfl⟩ | ⟨h0, g, rfl, hv⟩
  · clear h0
    unfold seeV fltV
    go_wp2
    refine bodyPost_ret (v := fltV (checkF ws).1 (checkF ws).2) (by simp [results, Try.results41, go_sem, fltV, hz, hq0, hq1]) rfl ⟨rfl, ?_⟩
    repeat (first | exact HB.out | refine Below.setCell ?_ (by simp) _ | refine Below.alloc ?_ (by simp; omega) _)
  · have HE := Lib.hid (checkF_code h0)
    unfold fltV
    clear h0 hv
    go_wp2
    refine bodyPost_ret (v := .agg #[.int .i64 0, .int .i64 0]) (by simp [results, Try.results41, go_sem, hz, hq0, hq1]) rfl ⟨by rw [HE.out]; rfl, ?_⟩
    repeat (first | exact HB.out | refine Below.setCell ?_ (by simp) _ | refine Below.alloc ?_ (by simp; omega) _)

/-- A copy: a row of its own. -/
def CloneEnd (xs : List Int) (w : World) (e : Ending) (w' : World) : Prop :=
  Below w.heap.size w w' ∧ ∃ A c, e = .returned (.slice A xs.length c) ∧ Own w' w.heap.size (.slice A xs.length c) xs

set_option maxRecDepth 100000 in
theorem clone_any (xs : List Int) (A : Option Addr) (c : Nat) (w : World) (hA : Ints w A xs) (hl : xs.length ≤ 1000000000) :
    Calls Try.prog 96 #[.slice A xs.length c] w (CloneEnd xs w) := by
  have HA := Lib.hid hA; clear hA
  cases A with
  | none =>
    have h0 : xs = [] := by
      rcases Nat.eq_zero_or_pos xs.length with h0 | h0
      · exact List.eq_nil_of_length_eq_zero h0
      · obtain ⟨b, o, h, _⟩ := HA.out h0
        cases h
    subst h0
    have hn := fun (W : World) => Lib.run_eql_slice_nil (P := Try.prog) W 22 3 none 0 c 0 0 Try.underlying22
    go_enter Try.func96, Try.ntmps96
    go_wp2
    go_ret
    exact ⟨Below.refl _ _, none, 0, rfl, Own.nil _ _⟩
  | some a =>
    have hn := fun (W : World) => Lib.run_eql_slice_nil (P := Try.prog) W 22 3 (some a) xs.length c 0 0 Try.underlying22
    go_enter Try.func96, Try.ntmps96
    go_wp2_with (at_builtin; refine wpList_join rfl _ _ rfl w.heap.size (.slice (some ⟨w.heap.size, 0, none⟩) 0 0) [] rfl (Own.lit0 w _ (Nat.le_refl _)) (some a) c xs rfl (HA.out.alloc _) (by simpa using hl) (by simp) ?_; intro A' cap w1 hown hgr _)
    go_ret
    simp only [List.length_nil, Nat.zero_add, List.nil_append] at hown
    refine ⟨((Below.refl _ _).alloc (Nat.le_refl _) _).grown hgr (by simp) (fun k hk => by simp [Value.ownBlock] at hk; omega), A', cap, by simp, hown⟩

theorem eqB_len {xs ys : List Int} (h : xs.length ≠ ys.length) : eqB xs ys = false := by
  unfold eqB; exact decide_eq_false (fun e => h (by rw [e]))
theorem eqB_nth {xs ys : List Int} {k : Nat} (h : nth xs k ≠ nth ys k) : eqB xs ys = false := by
  unfold eqB; exact decide_eq_false (fun e => h (by rw [e]))
theorem eqB_all {xs ys : List Int} (h : xs.length = ys.length) (hk : ∀ j, j < xs.length → nth xs j = nth ys j) : eqB xs ys = true := by
  unfold eqB
  refine decide_eq_true (List.ext_getElem h fun j h1 h2 => ?_)
  have := hk j h1
  rwa [nth_eq h1, nth_eq h2] at this

section
variable (xs ys : List Int) (A B : Option Addr) (c d : Nat) (w : World) (hA : Ints w A xs) (hB : Ints w B ys) (hl : xs.length ≤ 1000000000)
include hA hB hl

theorem ints_any : Calls Try.prog 45 #[.slice A xs.length c, .slice B ys.length d] w fun e w' => e = .returned (.bool (eqB xs ys)) ∧ ∃ m, w' = w.drewN m := by
  have HA := Lib.hid hA; clear hA
  have HB := Lib.hid hB; clear hB
  by_cases hlen : xs.length = ys.length
  · have HL := Lib.hid hlen
    have hle : xs.length ≤ ys.length := by omega
    have hge : ys.length ≤ xs.length := by omega
    have hd : ((xs.length : Int) != (ys.length : Int)) = false := by simp; omega
    clear hlen
    go_enter Try.func45, Try.ntmps45
    go_wp2_with fail
    go_loopw [5] (fun i wr => ∃ (k m : Nat), k ≤ xs.length ∧ i = .int .i64 k ∧ wr = w.drewN m ∧ ∀ j, j < k → nth xs j = nth ys j) (fun i _ => xs.length - (intOf i).toNat)
    case atStart => exact ⟨0, 0, Nat.zero_le _, rfl, rfl, fun j hj => absurd hj (Nat.not_lt_zero _)⟩
    case round =>
      obtain ⟨k, m, hk, rfl, rfl, hall⟩ := hrel
      have HALL := Lib.hid hall; clear hall
      by_cases hlt : k < xs.length
      · obtain ⟨b, o, rfl, _, hr⟩ := HA.out (by omega)
        obtain ⟨b', o', rfl, _, hr'⟩ := HB.out (by omega)
        have h1 := hr k hlt
        have h2 := hr' k (by omega)
        have f1 : (0 : Int) ≤ (k : Int) := by omega
        have f2 : (k : Int) < (xs.length : Int) := by omega
        have f3 : (k : Int) < (ys.length : Int) := by omega
        clear hr hr'
        cases he : (nth xs k != nth ys k)
        · have he' : nth xs k = nth ys k := by simpa using he
          have HE := Lib.hid he'; clear he'
          go_wp2_with fail
          go_quiet (fail)
          go_wp2
          go_roundw
          case rel => exact ⟨k + 1, _, by omega, by go_num, rfl, fun j hj => by rcases Nat.lt_or_ge j k with h | h; exact HALL.out j h; obtain rfl : j = k := by omega
                                                                                exact HE.out⟩
          case measure => simp [intOf]; omega
        · have he' : nth xs k ≠ nth ys k := by simpa using he
          have HE := Lib.hid (eqB_nth he'); clear he'
          go_wp2_with fail
          go_quiet (fail)
          go_wp2
          go_ret
          exact ⟨ret_bool HE.out.symm, _, World.drewN_drewN ..⟩
      · have HE := Lib.hid (eqB_all HL.out (fun j hj => HALL.out j (by omega)))
        go_wp2
        go_ret
        exact ⟨ret_bool HE.out.symm, _, rfl⟩
  · have HN := Lib.hid (eqB_len hlen)
    have hd : ((xs.length : Int) != (ys.length : Int)) = true := by simp; omega
    clear hlen
    go_enter Try.func45, Try.ntmps45
    go_wp2
    go_ret
    exact ⟨ret_bool HN.out.symm, 0, rfl⟩

set_option maxRecDepth 100000 in
theorem heaps_any : Calls Try.prog 48 #[.agg #[.slice A xs.length c], .agg #[.slice B ys.length d]] w fun e w' => e = .returned (.bool (eqB xs ys)) ∧ Below w.heap.size w w' := by
  have HA := Lib.hid ((hA.alloc (.cells #[.slice A xs.length c] 33)).alloc (.cells #[.slice B ys.length d] 33)); clear hA
  have HB := Lib.hid ((hB.alloc (.cells #[.slice A xs.length c] 33)).alloc (.cells #[.slice B ys.length d] 33)); clear hB
  go_enter Try.func48, Try.ntmps48
  go_wp2_with (go_at_call 45; refine (ints_any xs ys A B c d _ HA.out HB.out hl).mono ?_; rintro e w' ⟨rfl, m, rfl⟩)
  go_ret
  exact ⟨rfl, (((Below.refl _ _).alloc (Nat.le_refl _) _).alloc (by simp) _).trans (belowN _ _ m)⟩
end

section
variable {ws : List Int} {g : Nat} {w : World}
theorem isv_any (hv : ViewAt w g ws) (x : Int) (h1 : -9223372036854775808 ≤ x) (h2 : x ≤ 9223372036854775807) :
    Calls Try.prog 95 #[.pointer (some ⟨g, 0, none⟩), .int .i64 x] w fun e w' => e = .returned (.bool (isTh ws x)) ∧ w = w' := by
  obtain ⟨b, o, c, M, n, f, A, oc, hg, hlt, hblk, hc, hr, hm, hf, hi⟩ := hv.at_
  exact is_any ws g M n f x w (cell_of_row w g 1 _ 112 (0, 0) hblk) hm hf h1 h2
theorem fitsv_any (hv : ViewAt w g ws) (x : Int) (h1 : -9223372036854775808 ≤ x) (h2 : x ≤ 9223372036854775807) :
    Calls Try.prog 149 #[.pointer (some ⟨g, 0, none⟩), .int .i64 x] w fun e w' => e = .returned (.bool (fitsB ws x)) ∧ w = w' := by
  obtain ⟨b, o, c, M, n, f, A, oc, hg, hlt, hblk, hc, hr, hm, hf, hi⟩ := hv.at_
  exact fits_any ws g M n f x w (cell_of_row w g 1 _ 112 (0, 0) hblk) hm hf h1 h2
theorem standsv_any (hv : ViewAt w g ws) (fm x : Int) (h1 : -9223372036854775808 ≤ x) (h2 : x ≤ 9223372036854775807) :
    Calls Try.prog 99 #[.pointer (some ⟨g, 0, none⟩), .int .i64 fm, .int .i64 x] w fun e w' => e = .returned (.bool (standsB ws fm x)) ∧ w = w' := by
  obtain ⟨b, o, c, M, n, f, A, oc, hg, hlt, hblk, hc, hr, hm, hf, hi⟩ := hv.at_
  exact stands_any ws g M n f fm x w (cell_of_row w g 1 _ 112 (0, 0) hblk) hm hf h1 h2
theorem formv_any (hv : ViewAt w g ws) (hw : I64 ws) (hl : ws.length ≤ 100000) (p : Nat) (hp : p + 2 < ws.length) :
    Calls Try.prog 97 #[.pointer (some ⟨g, 0, none⟩), .int .i64 p] w fun e w' => e = .returned (.int .i64 (formOf ws p)) ∧ w = w' := by
  obtain ⟨b, o, c, M, n, f, A, oc, hg, hlt, hblk, hc, hr, hm, hf, hi⟩ := hv.at_
  exact form_any ws g b o c p w (cell_of_row w g 0 _ 112 (0, 0) hblk) hr hw hl hp
theorem endv_any (hv : ViewAt w g ws) (hw : I64 ws) (hl : ws.length ≤ 100000) (p : Nat) (hp : p + 2 < ws.length) :
    Calls Try.prog 116 #[.pointer (some ⟨g, 0, none⟩), .int .i64 p] w fun e w' => e = .returned (.int .i64 (p + 3 + nth ws (p + 2) / 4)) ∧ w = w' := by
  obtain ⟨b, o, c, M, n, f, A, oc, hg, hlt, hblk, hc, hr, hm, hf, hi⟩ := hv.at_
  exact end_any ws g b o c p w (cell_of_row w g 0 _ 112 (0, 0) hblk) hr hw hl hp
/-- The slots of a thing: a slice that lies below the heap's end. -/
def SlotsAre (ws : List Int) (p : Nat) (w : World) (e : Ending) (w' : World) : Prop :=
  ∃ A c' m, e = .returned (.slice A (slotsN ws p) c') ∧ Ints w A (slotsL ws p) ∧ w' = w.drewN m ∧ slotsN ws p ≤ c'
theorem slotsv_any (hv : ViewAt w g ws) (hw : I64 ws) (hl : ws.length ≤ 100000) (p : Nat) (hb : badB ws p = false) :
    Calls Try.prog 98 #[.pointer (some ⟨g, 0, none⟩), .int .i64 p] w (SlotsAre ws p w) := by
  obtain ⟨b, o, c, M, n, f, A, oc, hg, hlt, hblk, hc, hr, hm, hf, hi⟩ := hv.at_
  refine (slots_any ws g b o c p w (cell_of_row w g 0 _ 112 (0, 0) hblk) hr hw hl hb hc).mono fun e w' ⟨he, m, hw'⟩ => ⟨_, _, m, he, ints_slots hr hlt hb hc, hw', ?_⟩
  have := not_bad hb
  unfold slotsN; omega
/-- What the walk reads of a view. -/
theorem ViewAt.cells (hv : ViewAt w g ws) : ∃ b o c M A oc, w.cell? ⟨g, 0, none⟩ = some (.slice (some ⟨b, o, none⟩) ws.length c) ∧ w.cell? ⟨g, 1, none⟩ = some (.map (some M)) ∧ w.cell? ⟨g, 2, none⟩ = some (.slice A (places ws).length oc) ∧
    g < w.heap.size ∧ b < w.heap.size ∧ ws.length ≤ c ∧ Row w b o ws ∧ Ints w A (ups (places ws)) := by
  obtain ⟨b, o, c, M, n, f, A, oc, hg, hlt, hblk, hc, hr, hm, hf, hi⟩ := hv.at_
  exact ⟨b, o, c, M, A, oc, cell_of_row w g 0 _ 112 (0, 0) hblk, cell_of_row w g 1 _ 112 (0, 0) hblk, cell_of_row w g 2 _ 112 (0, 0) hblk, hg, hlt, hc, hr, hi⟩
end

end Go.Proofs.Ytjpppdacamhhfaa
