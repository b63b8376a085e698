/- Things, of the program and of the document, tell the references of all things. Conditions: the words are numbers of 64 bits. -/
import Derived.Test.YtjpppdacamhhfaaHeap1
namespace Go.Proofs.Ytjpppdacamhhfaa
open Go.RowKit
set_option linter.unusedVariables false

theorem thingsL_len (ws : List Int) : (thingsL ws).length = (places ws).length := by simp [thingsL]
theorem thingsL_take {ws : List Int} {k : Nat} (h : k < (places ws).length) : (thingsL ws).take (k + 1) = (thingsL ws).take k ++ [2 * (((places ws).getD k 0 : Nat) : Int)] := by
  have h' : k < (thingsL ws).length := by rw [thingsL_len]; exact h
  rw [List.take_succ_eq_append_getElem h']
  simp [thingsL, List.getD, h]

def ThingsEnd (ws : List Int) (w : World) (e : Ending) (w' : World) : Prop :=
  Below w.heap.size w w' ∧ ((okB ws = false ∧ e = .returned (.tuple #[.slice none 0 0, .int .i64 7])) ∨
    (okB ws = true ∧ ∃ A c, e = .returned (.tuple #[.slice A (thingsL ws).length c, .int .i64 0]) ∧ Ints w' A (thingsL ws)))

set_option maxRecDepth 100000 in
set_option maxHeartbeats 1000000 in
theorem things_any (ws : List Int) (A : Option Addr) (c : Nat) (w : World) (hA : Ints w A ws) (hcap : ws.length ≤ c) (hw : I64 ws) (hl : ws.length ≤ 100000) :
    Calls Try.prog 43 #[.agg #[.slice A ws.length c]] w (ThingsEnd ws w) := by
  have HA := Lib.hid (hA.alloc (.cells #[.slice A ws.length c] 33)); clear hA
  have HW := Lib.hid hw; clear hw
  go_enter Try.func43, Try.ntmps43
  go_wp2_with fail
  refine (look_any ws A c _ HA.out hcap HW.out (by omega)).mono ?_
  rintro e w1 ⟨hb, h⟩
  have hb0 : Below w.heap.size w w1 := ((Below.refl _ _).alloc (Nat.le_refl _) _).trans (hb.mono (by simp))
  have HB := Lib.hid hb0; clear hb hb0
  rcases h with ⟨h0, rfl⟩ | ⟨h0, g, rfl, hv⟩
  · have HOK := Lib.hid h0; clear h0
    go_wp2
    go_ret2
    exact ⟨HB.out, .inl ⟨HOK.out, rfl⟩⟩
  · have HOK := Lib.hid h0; clear h0
    obtain ⟨b, o, c', M, n, f, Ao, oc, hg, hlt, hblk, hc', hr, hm, hf, hi⟩ := hv.at_
    have hblk' : Blk w1 g 112 #[.slice (some ⟨b, o, none⟩) ws.length c', .map (some M), .slice Ao (places ws).length oc] := hblk
    have hv2 := hblk'.cell 2
    simp at hv2
    have HI := Lib.hid hi
    have hpl : (places ws).length ≤ ws.length := places_len ws
    clear hblk hblk' hr hm hf hi hv
    go_wp2_with fail
    go_loopw [6, 22] (fun v i wr => ∃ k : Nat, k ≤ (places ws).length ∧ i = .int .i64 k ∧ Below w1.heap.size w1 wr ∧ Own wr w1.heap.size v ((thingsL ws).take k)) (fun _ i _ => (places ws).length - (intOf i).toNat)
    case atStart => exact ⟨0, Nat.zero_le _, rfl, Below.refl _ _, Own.nil _ _⟩
    case round =>
      obtain ⟨k, hk, rfl, hbr, hown⟩ := hrel
      have HBR := Lib.hid hbr; clear hbr
      have HO := Lib.hid hown; clear hown
      by_cases hkl : k < (places ws).length
      · obtain ⟨b', o', rfl, hb', hrow'⟩ := HI.out (by rw [ups_len]; omega)
        have hcell := (hrow'.below HBR.out hb') k (by rw [ups_len]; exact hkl)
        rw [ups_nth hkl] at hcell
        clear hrow'
        have hq : (places ws).getD k 0 ∈ places ws := by simp [List.getD, hkl]
        have hq2 := (places_mem hq).2.1
        have HT := Lib.hid (thingsL_take hkl)
        generalize (places ws).getD k 0 = q at *
        go_wp2_with (at_builtin; refine wpList_push rfl _ _ rfl w1.heap.size _ ((thingsL ws).take k) rfl (HO.out.alloc _) wr.heap.size 1 (2 * (q : Int)) rfl (cell_new wr _ _ _ 0) (by simp [thingsL_len]; omega) (by have := HBR.out.size; simp; omega) ?_; intro g1 cap w2 hown1 _ hgr)
        go_roundw
        case rel =>
          refine ⟨k + 1, by omega, by go_num, ?_, ?_⟩
          · exact ((HBR.out.alloc HBR.out.size _).grown hgr (by have := HBR.out.size; simp; omega) (fun j hj => (HO.out.lt j hj).1))
          · rw [HT.out]; rw [List.length_take] at hown1; exact hown1
        case measure => simp [intOf]; omega
      · obtain rfl : k = (places ws).length := by omega
        obtain ⟨A', c'', rfl, hA', _, _⟩ := HO.out.form2
        go_wp2
        go_ret2
        rw [← thingsL_len, List.take_length] at hA'
        refine ⟨HB.out.trans (HBR.out.mono HB.out.size), .inr ⟨HOK.out, A', c'', ?_, hA'⟩⟩
        rw [← thingsL_len, List.take_length]
        rfl

/-- The references of the places from p on. -/
theorem thingsL_split {ws : List Int} {pre : List Nat} {p : Nat} (h : places ws = pre ++ plFrom ws p) : thingsL ws = (pre.map fun (q : Nat) => 2 * (q : Int)) ++ (plFrom ws p).map fun (q : Nat) => 2 * (q : Int) := by
  unfold thingsL; rw [h, List.map_append]

set_option maxRecDepth 100000 in
set_option maxHeartbeats 1000000 in
theorem rthings_any (ws : List Int) (b o c : Nat) (w : World) (hr : Row w b o ws) (hlt : b < w.heap.size) (hw : I64 ws) (hl : ws.length ≤ 100000) (hbad : bad1 ws = none) :
    Calls Try.prog 44 #[.agg #[.slice (some ⟨b, o, none⟩) ws.length c]] w fun e w' => Below w.heap.size w w' ∧ ∃ A c', e = .returned (.slice A (thingsL ws).length c') ∧ Ints w' A (thingsL ws) := by
  have hz : (w.alloc (.cells #[.slice (some ⟨b, o, none⟩) ws.length c] 33)).heap.size = w.heap.size + 1 := by simp
  have hx : Blk (w.alloc (.cells #[.slice (some ⟨b, o, none⟩) ws.length c] 33)) w.heap.size 33 #[.slice (some ⟨b, o, none⟩) ws.length c] := Blk.new _ _ _
  have hrow : Row (w.alloc (.cells #[.slice (some ⟨b, o, none⟩) ws.length c] 33)) b o ws := hr.below ((Below.refl _ _).alloc (Nat.le_refl _) _) hlt
  have HX := Lib.hid hx; have HR := Lib.hid hrow; have HW := Lib.hid hw; have HBD := Lib.hid hbad
  clear hx hrow hw hbad hr
  go_enter Try.func44, Try.ntmps44
  go_wp2_with fail
  have hb0 : Below w.heap.size w (w.alloc (.cells #[.slice (some ⟨b, o, none⟩) ws.length c] 33)) := (Below.refl _ _).alloc (Nat.le_refl _) _
  have HB := Lib.hid hb0; clear hb0
  generalize (w.alloc (.cells #[.slice (some ⟨b, o, none⟩) ws.length c] 33)) = w1 at *
  have HZ := Lib.hid hz; clear hz
  go_loopw [3, 4] (fun v i wr => ∃ (p : Nat) (pre : List Nat), i = .int .i64 p ∧ p ≤ 200000 ∧ pre.length ≤ p ∧ badFrom ws p = none ∧ places ws = pre ++ plFrom ws p ∧ Below w1.heap.size w1 wr ∧ Own wr w1.heap.size v (pre.map fun (q : Nat) => 2 * (q : Int))) (fun _ i _ => ws.length - (intOf i).toNat)
  case atStart => exact ⟨2, [], rfl, by omega, by simp, HBD.out, (places_eq ws).trans rfl, Below.refl _ _, Own.nil _ _⟩
  case round =>
    obtain ⟨p, pre, rfl, hp, hpre, hbd, hpl, hbr, hown⟩ := hrel
    have HBF := Lib.hid hbd; have HPL := Lib.hid hpl; have HBR := Lib.hid hbr; have HO := Lib.hid hown
    clear hbd hpl hbr hown
    have hq0 : wr.cell? ⟨w.heap.size, 0, none⟩ = some (.slice (some ⟨b, o, none⟩) ws.length c) := (HX.out.below HBR.out HX.out.lt).cell 0
    by_cases hlt : p < ws.length
    · obtain ⟨hbad, hnx⟩ := badFrom_none HBF.out hlt
      obtain ⟨n1, n2, n3, n4, n5⟩ := not_bad hbad
      have HBAD := Lib.hid hbad
      have HNX := Lib.hid hnx
      have hcast := Lib.hid (nxt_cast hbad)
      clear hbad hnx
      have hbl : b < w1.heap.size := HR.out.lt (by omega)
      go_wp2_with (at_builtin; refine wpList_push rfl _ _ rfl w1.heap.size _ (pre.map fun (q : Nat) => 2 * (q : Int)) rfl (HO.out.alloc _) wr.heap.size 1 (2 * (p : Int)) rfl (cell_new wr _ _ _ 0) (by simp; omega) (by have := HBR.out.size; simp; omega) ?_; intro g1 cap w2 hown1 _ hgr; have hb2 := Lib.hid ((HBR.out.alloc HBR.out.size (.cells #[.int .i64 (2 * (p : Int))] 3)).grown hgr (by have := HBR.out.size; simp; omega) (fun j hj => (HO.out.lt j hj).1)); have hcell := (HR.out.below hb2.out hbl) (p + 2) (by omega); have hq1 : w2.cell? ⟨w.heap.size, 0, none⟩ = some (.slice (some ⟨b, o, none⟩) ws.length c) := (HX.out.below hb2.out HX.out.lt).cell 0; have HO1 := Lib.hid hown1; clear hown1 hgr)
      go_roundw
      case rel =>
        have hg := nxt_gt ws p
        have hc := hcast.out
        refine ⟨nxt ws p, pre ++ [p], by rw [hc], by omega, by simp; omega, HNX.out, ?_, hb2.out, ?_⟩
        · rw [HPL.out, plFrom_ok hlt HBAD.out, List.append_assoc]; rfl
        · rw [List.map_append]; simpa using HO1.out
      case measure =>
        have hg := nxt_gt ws p
        have hc := hcast.out
        simp [intOf]; omega
    · have he : thingsL ws = pre.map fun (q : Nat) => 2 * (q : Int) := by rw [thingsL_split HPL.out, plFrom_end (by omega)]; simp
      have HE := Lib.hid he; clear he
      obtain ⟨A', c'', rfl, hA', _, _⟩ := HO.out.form2
      go_wp2
      go_ret
      rw [HE.out]
      exact ⟨HB.out.trans (HBR.out.mono HB.out.size), A', c'', rfl, hA'⟩

end Go.Proofs.Ytjpppdacamhhfaa
