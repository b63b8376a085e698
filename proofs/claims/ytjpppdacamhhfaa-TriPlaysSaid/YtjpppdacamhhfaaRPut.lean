/- The document's Put changes a slot, or tells what stands against it. Conditions: numbers of 64 bits, a heap that may be. -/
import Derived.Test.YtjpppdacamhhfaaRLook
import Derived.Test.YtjpppdacamhhfaaPut
namespace Go.Proofs.Ytjpppdacamhhfaa
open Go.RowKit
set_option linter.unusedVariables false

theorem own_ints {w : World} {base n c : Nat} {A : Option Addr} {xs : List Int} (h : Own w base (.slice A n c) xs) : Ints w A xs ∧ n = xs.length ∧ n ≤ c := by
  obtain ⟨A', c', hv, hA, hc, hb⟩ := h.form2
  simp at hv
  obtain ⟨rfl, rfl, rfl⟩ := hv
  exact ⟨hA, rfl, hc⟩

section
variable (ws : List Int) (b o c : Nat) (x at_ what : Int) (w : World) (hr : Row w b o ws) (hlt : b < w.heap.size) (hcap : ws.length ≤ c) (hw : I64 ws) (hok : OkH ws)
    (c1 : -9223372036854775808 ≤ x) (c2 : x ≤ 9223372036854775807) (f1 : -9223372036854775808 ≤ at_) (f2 : at_ ≤ 9223372036854775807) (s1 : -9223372036854775808 ≤ what) (s2 : what ≤ 9223372036854775807)
include hr hlt hcap hw hok c1 c2 f1 f2 s1 s2

set_option maxRecDepth 100000 in
set_option maxHeartbeats 4000000 in
theorem rput_any : Calls Try.prog 52 #[.agg #[.slice (some ⟨b, o, none⟩) ws.length c], .int .i64 x, .int .i64 at_, .int .i64 what] w (HeapOut2 (putR ws x at_ what) w) := by
  have HR := Lib.hid ((hr.below ((Below.refl _ _).alloc (Nat.le_refl _) (.cells #[.slice (some ⟨b, o, none⟩) ws.length c] 33)) hlt).below ((Below.refl _ _).alloc (Nat.le_refl _) (.cells #[.slice none 0 0] 33)) (by simp; omega)); clear hr
  have HW := Lib.hid hw; clear hw
  have HOK := Lib.hid hok; clear hok
  have hb0 : Blk ((w.alloc (.cells #[.slice (some ⟨b, o, none⟩) ws.length c] 33)).alloc (.cells #[.slice none 0 0] 33)) w.heap.size 33 #[.slice (some ⟨b, o, none⟩) ws.length c] := (Blk.new _ _ _).alloc _
  have hr0 : Blk ((w.alloc (.cells #[.slice (some ⟨b, o, none⟩) ws.length c] 33)).alloc (.cells #[.slice none 0 0] 33)) (w.heap.size + 1) 33 #[.slice none 0 0] := by
    have := Blk.new (w.alloc (.cells #[.slice (some ⟨b, o, none⟩) ws.length c] 33)) 33 #[.slice none 0 0]
    simpa using this
  have HB0 := Lib.hid hb0; have HR0 := Lib.hid hr0; clear hb0 hr0
  have HL0 : Hid (Below w.heap.size w ((w.alloc (.cells #[.slice (some ⟨b, o, none⟩) ws.length c] 33)).alloc (.cells #[.slice none 0 0] 33))) := ((Below.refl _ _).alloc (Nat.le_refl _) _).alloc (by simp) _
  obtain ⟨q1, q2⟩ : 2 ≤ ws.length ∧ ws.length ≤ 2000 := ⟨HOK.out.two, HOK.out.most⟩
  go_enter Try.func52, Try.ntmps52
  go_wp2_with fail
  have hlt1 : b < ((w.alloc (.cells #[.slice (some ⟨b, o, none⟩) ws.length c] 33)).alloc (.cells #[.slice none 0 0] 33)).heap.size := by simp; omega
  generalize ((w.alloc (.cells #[.slice (some ⟨b, o, none⟩) ws.length c] 33)).alloc (.cells #[.slice none 0 0] 33)) = w1 at *
  refine (rlook_any ws b o c x w1 HR.out hlt1 hcap HW.out HOK.out c1 c2).mono ?_
  rintro e w2 ⟨hb2, h⟩
  have HB2 := Lib.hid (HB0.out.below hb2 HB0.out.lt)
  have HR2 := Lib.hid (HR0.out.below hb2 HR0.out.lt)
  have HRW := Lib.hid (HR.out.below hb2 hlt1)
  have HL2 := Lib.hid (HL0.out.trans (hb2.mono HL0.out.size))
  have hs12 := hb2.size
  clear hb2
  obtain ⟨x1, x2, x3⟩ := HB2.out.f1
  obtain ⟨y1, y2, y3⟩ := HR2.out.f1
  rcases h with ⟨hth, rfl⟩ | ⟨hth, A, cA, rfl, hown⟩
  · have HE : Hid (putR ws x at_ what = ([], 3)) := by show _ = _; unfold putR putE; rw [if_pos hth]; rfl
    clear hth
    unfold thingV
    go_wp2
    rw [HE.out]
    exact bodyPost_ret (v := .tuple #[.agg #[.slice none 0 0], .int .i64 3]) (by simp [results, Try.results52, go_sem, y1, y3]) rfl (heapOut2_err _ ((HL2.out.setCell (by dsimp only; omega) _).alloc (by simpa using HL2.out.size) _))
  obtain ⟨hfit, hp2, hpl⟩ := isTh_fit hth
  obtain ⟨hpm, hx⟩ := isTh_plc hth
  have HFIT := Lib.hid hfit
  obtain ⟨n1, n2, n3, n4, n5⟩ := not_bad hfit
  have HT := Lib.hid hth
  have hn6 : slotsN ws (plc x) ≤ 60 := by unfold slotsN; omega
  have hn7 : plc x + 3 + slotsN ws (plc x) ≤ ws.length := by unfold slotsN; omega
  have hlen := slotsL_len hfit
  have HPE : Hid (putE ws x at_ what = if at_ < 0 ∨ (slotsN ws (plc x) : Int) ≤ at_ then 4 else if standsB ws (formOf ws (plc x)) what = false then 2 else 0) := by
    show _ = _; unfold putE; rw [if_neg (by rw [hth]; decide)]; rfl
  have HPW : Hid (putW ws x at_ what = ws.set (plc x + 3 + at_.toNat) what) := rfl
  rw [hlen]
  generalize plc x = p at *
  subst hx
  clear hfit hpm hth hlen hown
  unfold thingV
  by_cases hrg : at_ < 0 ∨ (slotsN ws p : Int) ≤ at_
  · have HE : Hid (putR ws (2 * (p : Int)) at_ what = ([], 4)) := by show _ = _; unfold putR; rw [HPE.out, if_pos hrg]; rfl
    have hr : at_ < 0 ∨ (0 ≤ at_ ∧ (slotsN ws p : Int) ≤ at_) := by omega
    clear hrg
    rcases hr with r1 | ⟨r1, r2⟩
    all_goals
      go_wp2
      rw [HE.out]
      exact bodyPost_ret (v := .tuple #[.agg #[.slice none 0 0], .int .i64 4]) (by simp [results, Try.results52, go_sem, y1, y3]) rfl (heapOut2_err _ ((HL2.out.setCell (by dsimp only; omega) _).alloc (by simpa using HL2.out.size) _))
  have r1 : 0 ≤ at_ := by omega
  have r2 : at_ < (slotsN ws p : Int) := by omega
  obtain ⟨k, rfl⟩ : ∃ k : Nat, at_ = k := ⟨at_.toNat, by omega⟩
  have hRA : Hid (Row (w2.alloc (.cells #[.int .i64 (nth ws p), .int .i64 (nth ws (p + 1)), .int .i64 (formOf ws p), .slice A (slotsN ws p) cA] 48)) b o ws) := HRW.out.below ((Below.refl _ _).alloc (Nat.le_refl _) _) (by omega)
  cases hst : standsB ws (formOf ws p) what
  · have HE : Hid (putR ws (2 * (p : Int)) k what = ([], 2)) := by show _ = _; unfold putR; rw [HPE.out, if_neg hrg, if_pos hst]; rfl
    clear hrg
    go_wp2_with (go_at_call 93; refine (rstands_any ws b o c _ hRA.out HW.out (by omega) HOK.out.bad _ _ (by omega) (by omega)).mono ?_; rintro e w' ⟨rfl, rfl⟩)
    rw [HE.out]
    exact bodyPost_ret (v := .tuple #[.agg #[.slice none 0 0], .int .i64 2]) (by simp [results, Try.results52, go_sem, y1, y3]) rfl (heapOut2_err _ ((HL2.out.setCell (by dsimp only; omega) _).alloc (by simpa using HL2.out.size) _))
  · have HE : Hid (putR ws (2 * (p : Int)) k what = (ws.set (p + 3 + k) what, 0)) := by
      show _ = _
      unfold putR
      have : putE ws (2 * (p : Int)) k what = 0 := by rw [HPE.out, if_neg hrg, if_neg (by rw [hst]; decide)]
      rw [if_pos this, HPW.out, Int.toNat_natCast]
    clear hrg
    have hLA : Hid (Below w.heap.size w (w2.alloc (.cells #[.int .i64 (nth ws p), .int .i64 (nth ws (p + 1)), .int .i64 (formOf ws p), .slice A (slotsN ws p) cA] 48))) := HL2.out.alloc HL2.out.size _
    have hRB : Hid (Blk (w2.alloc (.cells #[.int .i64 (nth ws p), .int .i64 (nth ws (p + 1)), .int .i64 (formOf ws p), .slice A (slotsN ws p) cA] 48)) (w.heap.size + 1) 33 #[.slice none 0 0]) := HR2.out.alloc _
    have hsz : Hid (w2.heap.size + 1 = (w2.alloc (.cells #[.int .i64 (nth ws p), .int .i64 (nth ws (p + 1)), .int .i64 (formOf ws p), .slice A (slotsN ws p) cA] 48)).heap.size) := by show _ = _; simp
    go_wp2_with (first
      | (go_at_call 93; refine (rstands_any ws b o c _ hRA.out HW.out (by omega) HOK.out.bad _ _ (by omega) (by omega)).mono ?_; rintro e w' ⟨rfl, rfl⟩)
      | (at_builtin; refine wpList_join rfl (.tmp 43) (.tmp 45) rfl (w2.heap.size + 1) (.slice (some ⟨w2.heap.size + 1, 0, none⟩) 0 0) [] rfl (by rw [hsz.out]; exact Own.lit0 _ _ (Nat.le_refl _)) (some ⟨b, o, none⟩) c ws rfl (Ints.alloc (fun _ => ⟨b, o, rfl, by simp; omega, hRA.out⟩) _) (by simp; omega) (by simp) ?_; intro A3 k3 w3 hown3 hgr3 hat3; simp only [List.length_nil, Nat.zero_add, List.nil_append] at hown3 hat3 ⊢; obtain ⟨g3, rfl, hg3, hg3', _, hk3⟩ := hown3.some_ (by omega); have hb23 : Below w2.heap.size w2 w3 := (((Below.refl w2.heap.size w2).alloc (Nat.le_refl _) _).alloc (by simp) (.cells #[] 3)).grown hgr3 (by simp; omega) (fun k hk => by simp [Value.ownBlock] at hk; omega); have hcc := hown3.cell (p + 3 + k) (by omega); have hff := hown3.frz (p + 3 + k); have HO := Lib.hid (hown3.put (p + 3 + k) what); obtain ⟨z1, z2, z3⟩ := (HR2.out.below hb23 HR2.out.lt).f1; have HB23 := Lib.hid hb23; clear hown3 hb23 hgr3 hat3))
    rw [HE.out]
    refine bodyPost_ret (v := .tuple #[.agg #[.slice (some ⟨g3, 0, none⟩) ws.length k3], .int .i64 0]) (by simp [results, Try.results52, go_sem, z1]) rfl ⟨((HL2.out.trans (HB23.out.mono HL2.out.size)).setCell (by dsimp only; omega) _).setCell (by simp) _, some ⟨g3, 0, none⟩, k3, ?_, ?_⟩
    · dsimp only; rw [List.length_set]
    · dsimp only; rw [List.length_set]
      exact (HO.out.mono (by omega)).setCell _ (by simp [Value.ownBlock]; omega) _
end
end Go.Proofs.Ytjpppdacamhhfaa
