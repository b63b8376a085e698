/- names.Intern makes a text known. Conditions: the words are numbers of 64 bits. -/
import Derived.Test.YtjpppdacamhhfaaNmI
import Derived.Test.YtjpppdacamhhfaaNew
namespace Go.Proofs.Ytjpppdacamhhfaa
open Go.RowKit
set_option linter.unusedVariables false

theorem Blk.same {w w' : World} {g : Nat} {t : TypeId} {cs : Array Value} (h : Blk w g t cs) (he : w'.heap[g]? = w.heap[g]?) : Blk w' g t cs := he.trans h
theorem newO {ws : List Int} {k : Nat} (hok : OkH ws) : newOut ws 0 1 k = newR ws 0 1 k := by unfold newOut; rw [if_pos (okB_iff.2 hok)]

set_option maxRecDepth 100000 in
set_option maxHeartbeats 4000000 in
theorem intern_any (ws : List Int) (x : Int) (tx : ByteArray) (A : Option Addr) (c : Nat) (w : World) (hA : Ints w A ws) (hcap : ws.length ≤ c) (hw : I64 ws) (hl : ws.length ≤ 9223372036854775807) (h1 : -9223372036854775808 ≤ x) (h2 : x ≤ 9223372036854775807) (hs : tx.size ≤ 9223372036854775807) :
    Calls Try.prog 75 #[.agg #[.slice A ws.length c], .int .i64 x, .string tx] w (HeapOut (intF ws x tx) w) := by
  have hx0 : Below w.heap.size w ((w.alloc (.cells #[.slice A ws.length c] 33)).alloc (.cells #[.slice none 0 0] 33)) := ((Below.refl _ _).alloc (Nat.le_refl _) _).alloc (by simp) _
  have HX0 := Lib.hid hx0
  have HA := Lib.hid (hA.below hx0)
  have hb0 : Blk ((w.alloc (.cells #[.slice A ws.length c] 33)).alloc (.cells #[.slice none 0 0] 33)) w.heap.size 33 #[.slice A ws.length c] := (Blk.new _ _ _).alloc _
  have hr0 : Blk ((w.alloc (.cells #[.slice A ws.length c] 33)).alloc (.cells #[.slice none 0 0] 33)) (w.heap.size + 1) 33 #[.slice none 0 0] := by
    have := Blk.new (w.alloc (.cells #[.slice A ws.length c] 33)) 33 #[.slice none 0 0]
    simpa using this
  have HB0 := Lib.hid hb0; have HQ0 := Lib.hid hr0
  have HZ1 : Hid (w.heap.size + 2 ≤ ((w.alloc (.cells #[.slice A ws.length c] 33)).alloc (.cells #[.slice none 0 0] 33)).heap.size) := by show _ ≤ _; simp
  have HW := Lib.hid hw
  clear hx0 hA hb0 hr0 hw
  go_enter Try.func75, Try.ntmps75
  go_wp2_with fail
  generalize ((w.alloc (.cells #[.slice A ws.length c] 33)).alloc (.cells #[.slice none 0 0] 33)) = w1 at *
  refine (asked_tab ws x tx A c w1 HA.out hcap HW.out hl h1 h2 hs).mono ?_
  rintro e w2 ⟨hb2, h⟩
  have HX2 := Lib.hid (HX0.out.trans (hb2.mono HX0.out.size))
  have HA2 := Lib.hid (HA.out.below hb2); have HB2 := Lib.hid (HB0.out.below hb2 HB0.out.lt); have HQ2 := Lib.hid (HQ0.out.below hb2 HQ0.out.lt)
  have HZ2 := Lib.hid (Nat.le_trans HZ1.out hb2.size)
  obtain ⟨u1, u2, u3⟩ := HB2.out.f1
  obtain ⟨v1, v2, v3⟩ := HQ2.out.f1
  clear hb2
  rcases h with ⟨f, hf0, rfl, hff, hbad⟩ | ⟨h0, ht, hz, T, g, rfl, hT, hv⟩
  · have HE : Hid (intF ws x tx = ([], 0, f)) := by
      show _ = _
      obtain ⟨e1, e2⟩ := askE_bad hff hbad
      unfold intF
      rw [if_neg (by rw [e1]; exact e2), e1]
    clear hff hbad
    go_wp2_with fail
    rw [HE.out]
    exact bodyPost_ret (v := .tuple #[.agg #[.slice none 0 0], .int .i64 0, .int .i64 f]) (by simp [results, Try.results75, go_sem, v1]) rfl (heapOut_err _ _ (HX2.out.setCell (by simp) _))
  have hok : OkH ws := okB_iff.1 (by unfold okB; simp [h0])
  have HE0 : Hid (intF ws x tx = intT ws x tx) := by
    show _ = _
    unfold intF
    rw [if_pos (askE_good h0 ht hz)]
  have HT := Lib.hid ht; have HOK := Lib.hid hok
  have hsl := (tab_parts ht).2.2
  have hpb := (places_mem (q := pcl x) (isTh_mem (tab_parts ht).1).1).2.2
  have hn60 : slotsN ws (pcl x) ≤ 60 := by have := not_bad hpb; unfold slotsN; omega
  have hpl : pcl x + 3 + slotsN ws (pcl x) ≤ ws.length := by have := not_bad hpb; unfold slotsN; omega
  have HTB := Lib.hid hT; have HV := Lib.hid hv
  obtain ⟨l1, l2⟩ : 2 ≤ ws.length ∧ ws.length ≤ 2000 := ⟨hok.two, hok.most⟩
  have hwn : IntKind.i64.wrap ((tx.size : Nat) : Int) = ((tx.size : Nat) : Int) := IntWalk.i64_in _ (by omega)
  clear h0 ht hT hv hok hpb
  go_wp2_with fail
  refine (seat_any ws tx x T g w2 HOK.out HW.out hz HT.out HTB.out HV.out).mono ?_
  rintro e w4 ⟨rfl, hb4⟩
  have HX4 := Lib.hid (HX2.out.trans (hb4.mono HX2.out.size))
  have HA4 := Lib.hid (HA2.out.below hb4); have HB4 := Lib.hid (HB2.out.below hb4 HB2.out.lt); have HQ4 := Lib.hid (HQ2.out.below hb4 HQ2.out.lt); have HT4 := Lib.hid (HTB.out.below hb4 HTB.out.lt)
  have HZ4 := Lib.hid (Nat.le_trans HZ2.out hb4.size)
  clear u1 u2 u3 v1 v2 v3
  obtain ⟨u1, u2, u3⟩ := HB4.out.f1
  obtain ⟨v1, v2, v3⟩ := HQ4.out.f1
  obtain ⟨t1, t2, -, -, t5⟩ := HT4.out.f2
  obtain ⟨b, q, cs, hlt, hcl, hcs⟩ := tab_reads (HV.out.below hb4) HOK.out HW.out HT.out
  have HCL := Lib.hid hcl
  have HFT : Hid (intT ws x tx = if seatF ws tx (pcl x) < 0 then ([], 0, 6) else if nth (slotsL ws (pcl x)) (seatF ws tx (pcl x)).toNat ≠ 0 then (ws, nth (slotsL ws (pcl x)) (seatF ws tx (pcl x)).toNat, 0) else if newE ws 0 1 tx.size = 0 then ((layB (newW ws 0 1 tx.size) ws.length tx tx.size).set (pcl x + 3 + (seatF ws tx (pcl x)).toNat) (2 * ws.length), 2 * (ws.length : Int), 0) else ([], 0, newE ws 0 1 tx.size)) := rfl
  rcases seatF_range (ws := ws) (tx := tx) (p := pcl x) hsl with e0 | ⟨k, hk, e0, -⟩
  · rw [e0] at HFT ⊢
    have HE : Hid (intF ws x tx = ([], 0, 6)) := by show _ = _; rw [HE0.out, HFT.out, if_pos (by omega)]
    clear HFT HE0 e0 hb4 hcl hcs t1 t2
    go_wp2_with fail
    rw [HE.out]
    exact bodyPost_ret (v := .tuple #[.agg #[.slice none 0 0], .int .i64 0, .int .i64 6]) (by simp [results, Try.results75, go_sem, v1]) rfl (heapOut_err _ _ (HX4.out.setCell (by simp) _))
  rw [e0, Int.toNat_natCast, if_neg (show ¬ ((k : Nat) : Int) < 0 by omega)] at HFT
  rw [e0]
  have e1 := hcs k hk
  have hwk : IntKind.i64.wrap ((k : Nat) : Int) = ((k : Nat) : Int) := IntWalk.i64_in _ (by omega)
  generalize nth (slotsL ws (pcl x)) k = s at *
  clear e0 hb4 hcl hcs
  go_wp2_with fail
  go_quiet ((go_at_call 98; exact quiet_draws (HCL.out _)))
  have u15 : (w4.drewN nq).cell? ⟨w.heap.size, 0, none⟩ = some (.slice A ws.length c) := u1
  have v15 : (w4.drewN nq).cell? ⟨w.heap.size + 1, 0, none⟩ = some (.slice none 0 0) := v1
  have v25 : (w4.drewN nq).frozen? ⟨w.heap.size + 1, 0, none⟩ = false := v2
  have t25 : (w4.drewN nq).cell? ⟨T, 1, none⟩ = some (.int .i64 (pcl x : Int)) := t2
  have HX5 := Lib.hid (HX4.out.trans (belowN _ _ nq))
  have HA5 := Lib.hid (HA4.out.drewN nq); have HQ5 := Lib.hid (HQ4.out.drewN nq); have HT5 := Lib.hid (HT4.out.drewN nq)
  have HZ5 : Hid (w.heap.size + 2 ≤ (w4.drewN nq).heap.size) := HZ4.out
  clear u1 u2 v1 v2 t1 t2 e1 hlt HCL HX4 HX2
  generalize w4.drewN nq = w5 at *
  by_cases hs0 : s = 0
  case neg =>
    have HE : Hid (intF ws x tx = (ws, s, 0)) := by show _ = _; rw [HE0.out, HFT.out, if_pos hs0]
    have hsb : (s != 0) = true := by simpa using hs0
    clear HFT HE0 hs0
    go_wp2_with (at_builtin; refine wpList_joinN rfl _ _ rfl w5.heap.size (.slice none 0 0) [] rfl (Own.nil _ _) A c ws rfl HA5.out (by simp only [List.length_nil]; omega) (Nat.le_refl _) ?_; intro A7 n7 c7 w7 hown7 hgr7; have HO7 := Lib.hid hown7; have HG7 := Lib.hid ((Below.refl w5.heap.size w5).grown hgr7 (Nat.le_refl _) (fun _ e => nomatch e)); have HQ7 := Lib.hid (HQ5.out.grown hgr7 (fun e => nomatch e)); clear hown7 hgr7; obtain ⟨v1, v2, v3⟩ := HQ7.out.f1)
    rw [HE.out]
    have ho8 := HO7.out.setCell ⟨w.heap.size + 1, 0, none⟩ (by intro e; have := (HO7.out.lt _ e).1; have := HZ5.out; dsimp only at *; omega) (.slice A7 n7 c7)
    obtain ⟨A9, c9, e9, -, -, -⟩ := ho8.form2
    injection e9 with e91 e92 e93
    rw [List.nil_append] at ho8 e92
    subst e92
    exact bodyPost_ret (v := .tuple #[.agg #[.slice A7 ws.length c7], .int .i64 s, .int .i64 0]) (by simp [results, Try.results75, go_sem, v1]) rfl ⟨(HX5.out.trans (HG7.out.mono HX5.out.size)).setCell (by simp) _, A7, c7, rfl, ho8.mono (by have := HZ5.out; omega)⟩
  have HF3' : Hid (intF ws x tx = if newE ws 0 1 tx.size = 0 then ((layB (newW ws 0 1 tx.size) ws.length tx tx.size).set (pcl x + 3 + k) (2 * ws.length), 2 * (ws.length : Int), 0) else ([], 0, newE ws 0 1 tx.size)) := by show _ = _; rw [HE0.out, HFT.out]; exact if_neg (not_not_intro hs0)
  have hnew := new_any ws A c 0 1 tx.size w5 HA5.out hcap HW.out hl (by omega) (by omega) (by omega) (by omega) (by omega) (by omega)
  rw [newO HOK.out] at hnew
  have HN := Lib.hid hnew
  subst hs0
  clear HFT HE0 hnew
  go_wp2_with fail
  refine HN.out.mono ?_
  rintro e w6 ⟨hb6, A6, c6, rfl, ho6⟩
  have HX6 := Lib.hid (HX5.out.trans (hb6.mono HX5.out.size))
  have HQ6 := Lib.hid (HQ5.out.below hb6 HQ5.out.lt); have HT6 := Lib.hid (HT5.out.below hb6 HT5.out.lt)
  have HZ6 := Lib.hid (Nat.le_trans HZ5.out hb6.size)
  have hsz6 := hb6.size
  clear hb6 HN v15 v25 u15 t25
  by_cases hE : newE ws 0 1 tx.size = 0
  case neg =>
    have hne : (newE ws 0 1 tx.size != 0) = true := by simpa using hE
    have HE : Hid (intF ws x tx = ([], 0, newE ws 0 1 tx.size)) := by show _ = _; rw [HF3'.out, if_neg hE]
    have hnr : newR ws 0 1 tx.size = ([], 0, newE ws 0 1 tx.size) := by unfold newR; rw [if_neg hE]
    rw [hnr] at ho6 ⊢
    simp only [List.length_nil] at ho6 ⊢
    have HQ7 := Lib.hid (HQ6.out.alloc (.cells #[.slice A6 0 c6] 33))
    obtain ⟨v1, v2, v3⟩ := HQ7.out.f1
    clear hE hnr ho6 HF3'
    generalize newE ws 0 1 tx.size = E at *
    go_wp2_with fail
    rw [HE.out]
    exact bodyPost_ret (v := .tuple #[.agg #[.slice none 0 0], .int .i64 0, .int .i64 E]) (by simp [results, Try.results75, go_sem, v1]) rfl (heapOut_err _ _ ((HX6.out.alloc HX6.out.size _).setCell (by simp) _))
  have hnr : newR ws 0 1 tx.size = (newW ws 0 1 tx.size, 2 * (ws.length : Int), 0) := by unfold newR; rw [if_pos hE]
  rw [hnr] at ho6 ⊢
  dsimp only at ho6 ⊢
  have HE : Hid (intF ws x tx = ((layB (newW ws 0 1 tx.size) ws.length tx tx.size).set (pcl x + 3 + k) (2 * ws.length), 2 * (ws.length : Int), 0)) := by show _ = _; rw [HF3'.out, if_pos hE]
  have hsm := (newE_zero hE).2.2.2.2.2.1
  have hlen6 : (newW ws 0 1 tx.size).length = ws.length + 3 + tx.size := newW_len_ ..
  rw [hlen6] at ho6 ⊢
  obtain ⟨g6, rfl, hg6, hg6', -, hc6⟩ := ho6.some_ (by omega)
  have hx7 : Below w6.heap.size w6 (w6.alloc (.cells #[.slice (some ⟨g6, 0, none⟩) (ws.length + 3 + tx.size) c6] 33)) := (Below.refl _ _).alloc (Nat.le_refl _) _
  have HG7 := Lib.hid (Blk.new w6 33 #[.slice (some ⟨g6, 0, none⟩) (ws.length + 3 + tx.size) c6])
  have HO7 := Lib.hid (ho6.alloc (.cells #[.slice (some ⟨g6, 0, none⟩) (ws.length + 3 + tx.size) c6] 33))
  have HX7 := Lib.hid (HX6.out.trans (hx7.mono HX6.out.size))
  have HQ7 := Lib.hid (HQ6.out.below hx7 HQ6.out.lt); have HT7 := Lib.hid (HT6.out.below hx7 HT6.out.lt)
  have HZ7 : Hid ((w6.alloc (.cells #[.slice (some ⟨g6, 0, none⟩) (ws.length + 3 + tx.size) c6] 33)).heap.size = w6.heap.size + 1) := by show _ = _; rw [World.size_alloc]
  have hgT : T < g6 := Nat.lt_of_lt_of_le HT5.out.lt hg6
  have hgR : w.heap.size + 1 < g6 := by have := HZ5.out; omega
  clear hE hnr hlen6 ho6 HF3' hx7
  obtain ⟨W8, hcv, hgr8, hc8, hs8⟩ : ∃ W8 : World, (convert 9 70 (.string tx)).run Try.prog (w6.alloc (.cells #[.slice (some ⟨g6, 0, none⟩) (ws.length + 3 + tx.size) c6] 33)) = .ok (.slice (some ⟨(w6.alloc (.cells #[.slice (some ⟨g6, 0, none⟩) (ws.length + 3 + tx.size) c6] 33)).heap.size, 0, none⟩) tx.size (grownCap (w6.alloc (.cells #[.slice (some ⟨g6, 0, none⟩) (ws.length + 3 + tx.size) c6] 33)) tx.size 0 5)) W8 ∧ (w6.alloc (.cells #[.slice (some ⟨g6, 0, none⟩) (ws.length + 3 + tx.size) c6] 33)).grownBy W8 none ∧ (∀ j, j < tx.size → W8.cell? ⟨(w6.alloc (.cells #[.slice (some ⟨g6, 0, none⟩) (ws.length + 3 + tx.size) c6] 33)).heap.size, j, none⟩ = some (.int .u8 (bat tx j : Int))) ∧ W8.heap.size = (w6.alloc (.cells #[.slice (some ⟨g6, 0, none⟩) (ws.length + 3 + tx.size) c6] 33)).heap.size + 1 :=
    ⟨strW (w6.alloc (.cells #[.slice (some ⟨g6, 0, none⟩) (ws.length + 3 + tx.size) c6] 33)) tx, conv_str (w6.alloc (.cells #[.slice (some ⟨g6, 0, none⟩) (ws.length + 3 + tx.size) c6] 33)) tx, strW_grown (w6.alloc (.cells #[.slice (some ⟨g6, 0, none⟩) (ws.length + 3 + tx.size) c6] 33)) 0 tx, fun j hj => strW_cell (w6.alloc (.cells #[.slice (some ⟨g6, 0, none⟩) (ws.length + 3 + tx.size) c6] 33)) tx hj, strW_size (w6.alloc (.cells #[.slice (some ⟨g6, 0, none⟩) (ws.length + 3 + tx.size) c6] 33)) tx⟩
  generalize grownCap (w6.alloc (.cells #[.slice (some ⟨g6, 0, none⟩) (ws.length + 3 + tx.size) c6] 33)) tx.size 0 5 = cap8 at *
  go_wp2_with fail
  clear hcv
  generalize (w6.alloc (.cells #[.slice (some ⟨g6, 0, none⟩) (ws.length + 3 + tx.size) c6] 33)) = w7 at *
  generalize hG : w6.heap.size = G at *
  have HGE := Lib.hid hG
  clear hG
  have hx8 : Below w7.heap.size w7 W8 := (Below.refl _ w7).grown hgr8 (Nat.le_refl _) (fun _ e => nomatch e)
  have HG8 := Lib.hid (HG7.out.below hx8 HG7.out.lt)
  have HO8 := Lib.hid (HO7.out.below hx8 (fun k hk => (HO7.out.lt k hk).2))
  have HX8 := Lib.hid (HX7.out.trans (hx8.mono HX7.out.size))
  have HQ8 := Lib.hid (HQ7.out.below hx8 HQ7.out.lt); have HT8 := Lib.hid (HT7.out.below hx8 HT7.out.lt)
  have hz7 := HZ7.out
  rw [hz7] at hc8
  have HC8 := Lib.hid hc8
  clear hz7
  have hG6 : g6 < G := by have := HGE.out; omega
  have hB8 : G < w7.heap.size := by have := HZ7.out; omega
  have HS8 := Lib.hid hs8
  clear hc8 hgr8 hx8 hs8 HG7 HO7 HX7 HQ7 HT7 HZ7 HX6 HQ6 HT6 HZ6
  go_loopw [68] (fun i wr => ∃ j : Nat, i = .int .i64 (j : Int) ∧ j ≤ tx.size ∧ Own wr w5.heap.size (.slice (some ⟨g6, 0, none⟩) (ws.length + 3 + tx.size) c6) (layB (newW ws 0 1 tx.size) ws.length tx j) ∧ (∀ m, m ≠ g6 → wr.heap[m]? = W8.heap[m]?) ∧ Below w5.heap.size W8 wr) (fun i _ => tx.size - (intOf i).toNat)
  case atStart => exact ⟨0, rfl, Nat.zero_le _, HO8.out, fun _ _ => rfl, Below.refl _ _⟩
  case round =>
    obtain ⟨j, rfl, hj, hown, hsame, hbw⟩ := hrel
    have HO := Lib.hid hown; have HSM := Lib.hid hsame; have HBW := Lib.hid hbw
    have hG9 := HG8.out.same (hsame G (by omega))
    obtain ⟨y1, y2, y3⟩ := hG9.f1
    by_cases hjl : j < tx.size
    · have hb := bat_le tx j
      have hwb : IntKind.i64.wrap ((bat tx j : Nat) : Int) = ((bat tx j : Nat) : Int) := IntWalk.i64_in _ (by omega)
      have e8 := (World.cell?_of_block (w := W8) (w' := wr) (a := ⟨G + 1, j, none⟩) (hsame (G + 1) (by omega))).trans (HC8.out j hjl)
      have e9 := hown.cell (ws.length + 3 + j) (by rw [layN_len]; omega)
      have f9 := hown.frz (ws.length + 3 + j)
      have hdv : (2 * (ws.length : Int)) / 2 = (ws.length : Int) := by omega
      have hwd : IntKind.i64.wrap ((ws.length : Int) + 3) = (ws.length : Int) + 3 := IntWalk.i64_in _ (by omega)
      have hwe : IntKind.i64.wrap ((ws.length : Int) + 3 + (j : Int)) = (ws.length : Int) + 3 + (j : Int) := IntWalk.i64_in _ (by omega)
      have htn : ((ws.length : Int) + 3 + (j : Int)).toNat = ws.length + 3 + j := by omega
      have hge : 0 ≤ (ws.length : Int) + 3 + (j : Int) := by omega
      have hle : (ws.length : Int) + 3 + (j : Int) < (ws.length : Int) + 3 + (tx.size : Int) := by omega
      clear hown hsame hbw hG9
      go_wp2_with fail
      go_roundw
      case rel => exact ⟨j + 1, by go_num, by omega, HO.out.put (ws.length + 3 + j) (bat tx j), fun m hm => (Below.heap_setCell _ _ _ _ hm).trans (HSM.out m hm), HBW.out.setCell hg6 _⟩
      case measure => simp [intOf]; omega
    · obtain rfl : j = tx.size := by omega
      have hT9 := HT8.out.same (hsame T (by omega))
      have hQ9 := HQ8.out.same (hsame (w.heap.size + 1) (by omega))
      obtain ⟨-, t2, -, -, -⟩ := hT9.f2
      have e9 := hown.cell (pcl x + 3 + k) (by rw [layN_len]; omega)
      have f9 := hown.frz (pcl x + 3 + k)
      have hwd : IntKind.i64.wrap ((pcl x : Int) + 3) = (pcl x : Int) + 3 := IntWalk.i64_in _ (by omega)
      have hwe : IntKind.i64.wrap ((pcl x : Int) + 3 + (k : Int)) = (pcl x : Int) + 3 + (k : Int) := IntWalk.i64_in _ (by omega)
      have htn : ((pcl x : Int) + 3 + (k : Int)).toNat = pcl x + 3 + k := by omega
      have hge : 0 ≤ (pcl x : Int) + 3 + (k : Int) := by omega
      have hle : (pcl x : Int) + 3 + (k : Int) < (ws.length : Int) + 3 + (tx.size : Int) := by omega
      have hle2 : pcl x + 3 + k < ws.length + 3 + tx.size := by omega
      have ho10 := hown.put (pcl x + 3 + k) (2 * (ws.length : Int))
      have HO10 := Lib.hid ho10
      have HB10 := Lib.hid ((HX8.out.trans (hbw.mono (by have := HZ5.out; omega))).setCell (p := ⟨g6, pcl x + 3 + k, none⟩) (by dsimp only; omega) (.int .i64 (2 * (ws.length : Int)))).drew
      have HG10 := Lib.hid (hG9.far (p := ⟨g6, pcl x + 3 + k, none⟩) (by dsimp only; omega) (.int .i64 (2 * (ws.length : Int))))
      have HQ10 := Lib.hid (hQ9.far (p := ⟨g6, pcl x + 3 + k, none⟩) (by dsimp only; omega) (.int .i64 (2 * (ws.length : Int))))
      clear hown hsame hbw hG9 hT9 hQ9 ho10
      go_wp2_with fail
      go_region
      refine open_world (fun W => Own W w5.heap.size (.slice (some ⟨g6, 0, none⟩) (ws.length + 3 + tx.size) c6) ((layB (newW ws 0 1 tx.size) ws.length tx tx.size).set (pcl x + 3 + k) (2 * (ws.length : Int))) ∧ Below w.heap.size w W ∧ Blk W G 33 #[.slice (some ⟨g6, 0, none⟩) (ws.length + 3 + tx.size) c6] ∧ Blk W (w.heap.size + 1) 33 #[.slice none 0 0]) ⟨HO10.out, HB10.out, HG10.out, HQ10.out⟩ ?_
      rintro W9 ⟨ho9, hb9, hg9, hq9⟩
      clear y1 y2 y3 t2 e9 f9
      obtain ⟨y1, y2, y3⟩ := hg9.f1
      obtain ⟨v1, v2, v3⟩ := hq9.f1
      have HO := Lib.hid ho9; have HB := Lib.hid hb9
      have hll : ((layB (newW ws 0 1 tx.size) ws.length tx tx.size).set (pcl x + 3 + k) (2 * (ws.length : Int))).length = ws.length + 3 + tx.size := by rw [List.length_set, layN_len]
      have HLL := Lib.hid hll
      have hv9 := (hq9.set_ 0 (.slice (some ⟨g6, 0, none⟩) (ws.length + 3 + tx.size) c6)).f1.1
      have HV9 := Lib.hid hv9
      clear ho9 hb9 hg9 hq9 hll hv9
      go_wp2_with fail
      try rw [HE.out]
      refine bodyPost_ret (v := .tuple #[.agg #[.slice (some ⟨g6, 0, none⟩) (ws.length + 3 + tx.size) c6], .int .i64 (2 * (ws.length : Int)), .int .i64 0]) (by have := HV9.out; simp [results, Try.results75, go_sem, this]) rfl ⟨HB.out.setCell (by simp) _, some ⟨g6, 0, none⟩, c6, ?_, ?_⟩
      · rw [HLL.out]
      · rw [HLL.out]
        exact (HO.out.setCell _ (by simp [Value.ownBlock]; omega) _).mono (by have := HZ5.out; omega)
end Go.Proofs.Ytjpppdacamhhfaa
