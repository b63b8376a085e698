/- names.text and gessoref7.Text. Conditions: a heap that may be. -/
import Derived.Test.YtjpppdacamhhfaaNmA
import Derived.Test.YtjpppdacamhhfaaLawPuts
namespace Go.Proofs.Ytjpppdacamhhfaa
open Go.RowKit
set_option linter.unusedVariables false

theorem conv_own {w : World} {base : Nat} {v : Value} {xs : List Int} (h : OwnU w base v xs) : (convert 70 9 v).run Try.prog w = .ok (.string (strOfNums xs)) w := by
  obtain ⟨A, c, rfl, hi, -, -⟩ := h.form2
  by_cases hx : 0 < xs.length
  · obtain ⟨b, o, rfl, -, hr⟩ := hi hx
    exact run_convert_bytes_arg w 70 5 Try.underlying70 Try.underlying5 b o xs.length c xs rfl (fun i hi' => hr i hi') 9 Try.underlying9
  · have hx0 : xs = [] := List.eq_nil_of_length_eq_zero (by omega)
    subst hx0
    cases A with
    | none => exact run_convert_bytes_nil w 70 5 Try.underlying70 Try.underlying5 0 c 9 Try.underlying9
    | some a =>
      have hd := h.2
      rcases hd with ⟨e, _⟩ | ⟨g, cap, cur, e, _⟩
      · cases e
      · cases e
        exact run_convert_bytes_arg w 70 5 Try.underlying70 Try.underlying5 g 0 0 c [] rfl (fun i hi' => absurd hi' (Nat.not_lt_zero _)) 9 Try.underlying9
theorem bytes_slot {ws : List Int} (hok : OkH ws) {p k : Nat} (hp : p ∈ places ws) (hf : formOf ws p = 1) (hk : k < slotsN ws p) : 0 ≤ nth ws (p + 3 + k) ∧ nth ws (p + 3 + k) ≤ 255 := by
  have h := (hok.things p hp).slots k hk
  unfold standsB at h
  rw [if_pos hf] at h
  simpa using h
theorem list_extN {l m : List Int} (hl : l.length = m.length) (h : ∀ j, j < l.length → nth l j = nth m j) : l = m := by
  apply List.ext_getElem hl
  intro j h1 h2
  have := h j h1
  rwa [nth_eq h1, nth_eq h2] at this
theorem own_ints9b {w : World} {base n c : Nat} {A : Option Addr} {xs : List Int} (h : Own w base (.slice A n c) xs) : Ints w A xs ∧ n ≤ c := by
  obtain ⟨A', c', e, h1, h2, -⟩ := h.form2
  cases e
  exact ⟨h1, h2⟩
/-- The text of a thing of bytes. -/
def txtS (ws : List Int) (s : Int) : ByteArray := strOfNums (slotsL ws (pcl s))

set_option maxRecDepth 100000 in
set_option maxHeartbeats 4000000 in
theorem text_any (ws : List Int) (T g : Nat) (x : Value) (s : Int) (w : World) (hT : Blk w T 164 #[.pointer (some ⟨g, 0, none⟩), x]) (hv : ViewAt w g ws) (hok : OkH ws) (hw : I64 ws) (hs : isTh ws s = true) (hf : formOf ws (pcl s) = 1) :
    Calls Try.prog 136 #[.pointer (some ⟨T, 0, none⟩), .int .i64 s] w fun e w' => e = .returned (.string (txtS ws s)) ∧ Below w.heap.size w w' := by
  obtain ⟨hm, ho, ho4, ho5⟩ := isTh_mem hs
  have hpd : (s / 2).toNat = pcl s := rfl
  rw [hpd] at hm ho
  obtain ⟨p2, pl, pb⟩ := places_mem hm
  obtain ⟨m1, m2, m3, m4, m5⟩ := not_bad pb
  have hq1 : ws.length ≤ 2000 := hok.most
  have hn60 : slotsN ws (pcl s) ≤ 60 := by unfold slotsN; omega
  have hq : s.tdiv 2 = ((pcl s : Nat) : Int) := by rw [Int.tdiv_eq_ediv_of_nonneg (by omega)]; omega
  have hq2 : s / 2 = ((pcl s : Nat) : Int) := by omega
  have hwp : IntKind.i64.wrap ((pcl s : Nat) : Int) = ((pcl s : Nat) : Int) := IntWalk.i64_in _ (by omega)
  have HSL := Lib.hid (slotsv_any hv hw (by omega) (pcl s) pb)
  have HLEN := Lib.hid (slotsL_len pb)
  have HBS := Lib.hid (fun k hk => bytes_slot hok hm hf (k := k) hk)
  have HPB := Lib.hid pb
  obtain ⟨t1, t2, t3, t4, t5⟩ := hT.f2
  have htx : txtS ws s = strOfNums (slotsL ws (pcl s)) := rfl
  have HTX := Lib.hid htx
  clear hs hf hm ho hpd pb hT hv htx
  go_enter Try.func136, Try.ntmps136
  go_wp2_with fail
  refine HSL.out.mono ?_
  rintro e w4 ⟨A4, c4, k4, rfl, hi4, rfl, hc4⟩
  have HX4 := Lib.hid (belowN w.heap.size w k4)
  have HI4 := Lib.hid hi4
  clear hi4 hc4 HSL
  go_wp2_with fail
  generalize w.drewN k4 = w4 at *
  go_loopw [5, 16] (fun v i wr => ∃ j : Nat, i = .int .i64 (j : Int) ∧ j ≤ slotsN ws (pcl s) ∧ OwnU wr w.heap.size v ((slotsL ws (pcl s)).take j) ∧ Below w.heap.size w wr) (fun _ i _ => slotsN ws (pcl s) - (intOf i).toNat)
  case atStart => exact ⟨0, rfl, Nat.zero_le _, OwnU.nil _ _, HX4.out⟩
  case round =>
    obtain ⟨j, rfl, hj, hown, hb⟩ := hrel
    have HO := Lib.hid hown; have HB := Lib.hid hb
    have hws := hb.size
    clear hown hb
    by_cases hjl : j < slotsN ws (pcl s)
    · have hjs : j < (slotsL ws (pcl s)).length := by rw [HLEN.out]; exact hjl
      obtain ⟨b5, o5, rfl, -, r5⟩ := (HI4.out.below HB.out) (by omega)
      have e1 := r5 j hjs
      have hbs := HBS.out j hjl
      rw [← slotsL_nth HPB.out hjl] at hbs
      have HTK : Hid ((slotsL ws (pcl s)).take (j + 1) = (slotsL ws (pcl s)).take j ++ [nth (slotsL ws (pcl s)) j]) := by
        show _ = _
        rw [nth_eq hjs]; exact List.take_succ_eq_append_getElem hjs
      have hbl : ((slotsL ws (pcl s)).take j).length ≤ 1000000000 := by have := List.length_take_le j (slotsL ws (pcl s)); omega
      have HBL := Lib.hid hbl
      clear r5 hbl
      generalize nth (slotsL ws (pcl s)) j = y at *
      have hby : IntKind.u8.wrap y = y := by rw [IntKind.wrap_u8]; omega
      have hz6 : w.heap.size ≤ (wr.alloc (.cells #[.int .u8 y] 5)).heap.size := by rw [World.size_alloc]; omega
      have HX := Lib.hid (cell_new wr #[.int .u8 y] 5 (0, 0) 0)
      have hby2 : y % 256 = y := by omega
      go_wp2_with (at_builtin; refine wpList_pushNU rfl _ _ rfl w.heap.size _ ((slotsL ws (pcl s)).take j) rfl (HO.out.alloc _) wr.heap.size 1 y rfl HX.out HBL.out hz6 ?_; intro g6 n6 cap6 w6 hown6 hg6 hgr6; have HO6 := Lib.hid hown6; have HB6 := Lib.hid ((HB.out.alloc hws _).grown hgr6 hz6 (fun q hq => (HO.out.lt q hq).1)); clear hown6 hgr6)
      go_roundw
      case rel => exact ⟨j + 1, by go_num, by omega, by rw [HTK.out]; exact HO6.out, HB6.out⟩
      case measure => simp [intOf]; omega
    · obtain rfl : j = slotsN ws (pcl s) := by omega
      have ho9 := HO.out
      rw [List.take_of_length_le (by rw [HLEN.out]; exact Nat.le_refl _)] at ho9
      have hcv := conv_own ho9
      clear ho9
      go_wp2_with fail
      refine bodyPost_ret (v := .string (strOfNums (slotsL ws (pcl s)))) (by simp [results, Try.results136, go_sem]) rfl ⟨by rw [HTX.out], HB.out⟩

section
variable {w w' : World} {base g n cap : Nat} {v : Value} {xs : List Int}
theorem OwnU.put (h : OwnU w base (.slice (some ⟨g, 0, none⟩) n cap) xs) (j : Nat) (k : Int) : OwnU (w.setCell ⟨g, j, none⟩ (.int .u8 k)) base (.slice (some ⟨g, 0, none⟩) n cap) (xs.set j k) := by
  have e := h.len
  subst e
  have := (World.ownsRow.stored h j (.int .u8 k)).1
  unfold OwnU
  rw [List.length_set, List.map_set]; exact this
end
theorem wpList_zerosU {w : World} {ops : Array Oper} {rest : List Oper} {o : Oper} {a : Act} {Q : Exit → Act → World → Prop} (hgd : o.guard = none) (l c : Operand)
    (ho : o.op = .makeSlice 70 l c) (base n : Nat) (hl : a.eval l = .int .i64 n) (hc : a.eval c = .int .i64 n) (hn : n ≤ 1000000000) (hbase : base ≤ w.heap.size)
    (h : ∀ w', OwnU w' base (.slice (some ⟨w.heap.size, 0, none⟩) n n) (List.replicate n 0) → w.grownBy w' none → wpList Try.prog ops Q rest (a.put o.dst (.slice (some ⟨w.heap.size, 0, none⟩) n n)) w') :
    wpList Try.prog ops Q (o :: rest) a w := by
  obtain ⟨i, hi, hz0, hz1, hz2⟩ := info_parts info5
  refine wpList_make_full w hgd l c 70 ho base 5 i (.int .u8 0) 1 Try.underlying70 hi hz0 hz1 .i64 .i64 n n n hl hc rfl rfl (by rw [hz2]; omega) (by simp only [maxLen]; omega) hbase ?_
  intro w' h1 h2
  refine h w' ?_ h2
  unfold OwnU
  rw [List.length_replicate, List.map_replicate]
  have e : (madeCells (Value.int .u8 0).cells (n * 1)).toList = List.replicate n (.int .u8 0) := by
    rw [Nat.mul_one]; exact toList_madeCells_one _ n
  rw [← e]; exact h1

set_option maxRecDepth 100000 in
set_option maxHeartbeats 4000000 in
theorem rtext_any (ws : List Int) (b o c : Nat) (s : Int) (w : World) (hr : Row w b o ws) (hlt : b < w.heap.size) (hcap : ws.length ≤ c) (hok : OkH ws) (hw : I64 ws) (hs : isTh ws s = true) (hf : formOf ws (pcl s) = 1) (hs1 : -9223372036854775808 ≤ s) (hs2 : s ≤ 9223372036854775807) :
    Calls Try.prog 137 #[.agg #[.slice (some ⟨b, o, none⟩) ws.length c], .int .i64 s] w fun e w' => e = .returned (.string (txtS ws s)) ∧ Below w.heap.size w w' := by
  obtain ⟨hm, ho, ho4, ho5⟩ := isTh_mem hs
  have hpd : (s / 2).toNat = pcl s := rfl
  rw [hpd] at hm ho
  obtain ⟨p2, pl, pb⟩ := places_mem hm
  obtain ⟨m1, m2, m3, m4, m5⟩ := not_bad pb
  have hn60 : slotsN ws (pcl s) ≤ 60 := by unfold slotsN; omega
  have hlk : lkR ws s = ((nth ws (pcl s), nth ws (pcl s + 1), formOf ws (pcl s)), (slotsL ws (pcl s), 0)) := by unfold lkR; rw [if_pos hs]; rfl
  have hx0 : Below w.heap.size w (w.alloc (.cells #[.slice (some ⟨b, o, none⟩) ws.length c] 33)) := (Below.refl _ _).alloc (Nat.le_refl _) _
  have HX0 := Lib.hid hx0
  have HLK := Lib.hid ((rlook_any ws b o c s (w.alloc (.cells #[.slice (some ⟨b, o, none⟩) ws.length c] 33)) (hr.below hx0 hlt) (by rw [World.size_alloc]; omega) hcap hw hok hs1 hs2).mono fun e w' h => lookU_R h)
  rw [hlk] at HLK
  have HLEN := Lib.hid (slotsL_len pb)
  have HBS := Lib.hid (fun k hk => bytes_slot hok hm hf (k := k) hk)
  have HPB := Lib.hid pb
  have HTX := Lib.hid (show txtS ws s = strOfNums (slotsL ws (pcl s)) from rfl)
  clear hs hf hm ho hpd pb hlk hx0
  go_enter Try.func137, Try.ntmps137
  go_wp2_with fail
  generalize (w.alloc (.cells #[.slice (some ⟨b, o, none⟩) ws.length c] 33)) = w1 at *
  refine HLK.out.mono ?_
  rintro e w2 ⟨hb2, A2, c2, rfl, ho2⟩
  dsimp only at ho2 ⊢
  rw [HLEN.out] at ho2 ⊢
  have hi2 := (own_ints9b ho2).1
  have HX2 := Lib.hid (HX0.out.trans (hb2.mono HX0.out.size))
  have hws2 := HX2.out.size
  have hx3 : Below w2.heap.size w2 (w2.alloc (.cells #[.int .i64 (nth ws (pcl s)), .int .i64 (nth ws (pcl s + 1)), .int .i64 (formOf ws (pcl s)), .slice A2 (slotsN ws (pcl s)) c2] 48)) := (Below.refl _ _).alloc (Nat.le_refl _) _
  have HX3 := Lib.hid (HX2.out.trans (hx3.mono HX2.out.size))
  have HF3 := Lib.hid (Blk.new w2 48 #[.int .i64 (nth ws (pcl s)), .int .i64 (nth ws (pcl s + 1)), .int .i64 (formOf ws (pcl s)), .slice A2 (slotsN ws (pcl s)) c2])
  have HI3 := Lib.hid (hi2.below hx3)
  have hs3 : w2.heap.size < (w2.alloc (.cells #[.int .i64 (nth ws (pcl s)), .int .i64 (nth ws (pcl s + 1)), .int .i64 (formOf ws (pcl s)), .slice A2 (slotsN ws (pcl s)) c2] 48)).heap.size := by rw [World.size_alloc]; omega
  have HI2 := Lib.hid hi2
  clear hb2 ho2 hi2 hx3 HLK HX2
  unfold thingV
  have hz6 : w2.heap.size + 1 ≤ (w2.alloc (.cells #[.int .i64 (nth ws (pcl s)), .int .i64 (nth ws (pcl s + 1)), .int .i64 (formOf ws (pcl s)), .slice A2 (slotsN ws (pcl s)) c2] 48)).heap.size := by rw [World.size_alloc]; exact Nat.le_refl _
  go_wp2_with (at_make; refine wpList_zerosU rfl _ _ rfl (w2.heap.size + 1) (slotsN ws (pcl s)) rfl rfl (by omega) hz6 ?_; intro w6 hown6 hgr6; rw [World.size_alloc] at hown6; have HO6 := Lib.hid hown6; have HF6 := Lib.hid (HF3.out.grown hgr6 (fun e => nomatch e)); have HX6 := Lib.hid (HX3.out.grown hgr6 (by omega) (fun k hk => nomatch hk)); have HB6 := Lib.hid (((Below.refl w2.heap.size w2).alloc (Nat.le_refl _) (.cells #[.int .i64 (nth ws (pcl s)), .int .i64 (nth ws (pcl s + 1)), .int .i64 (formOf ws (pcl s)), .slice A2 (slotsN ws (pcl s)) c2] 48)).grown hgr6 (by omega) (fun k hk => nomatch hk)); clear hown6 hgr6)
  try rw [World.size_alloc]
  clear HX3 HF3 HI3 hs3 hz6
  generalize hG : w2.heap.size + 1 = G at *
  have HG := Lib.hid hG
  clear hG
  generalize hF : w2.heap.size = F at *
  have HFE := Lib.hid hF
  clear hF
  go_loopw [8] (fun i wr => ∃ (j : Nat) (xs : List Int), i = .int .i64 (j : Int) ∧ j ≤ slotsN ws (pcl s) ∧ OwnU wr G (.slice (some ⟨G, 0, none⟩) (slotsN ws (pcl s)) (slotsN ws (pcl s))) xs ∧ (∀ k, k < j → nth xs k = nth (slotsL ws (pcl s)) k) ∧ Blk wr F 48 #[.int .i64 (nth ws (pcl s)), .int .i64 (nth ws (pcl s + 1)), .int .i64 (formOf ws (pcl s)), .slice A2 (slotsN ws (pcl s)) c2] ∧ Below w.heap.size w wr ∧ Below F w2 wr) (fun i _ => slotsN ws (pcl s) - (intOf i).toNat)
  case atStart => exact ⟨0, _, rfl, Nat.zero_le _, HO6.out, fun k hk => absurd hk (Nat.not_lt_zero _), HF6.out, HX6.out, HB6.out⟩
  case round =>
    obtain ⟨j, xs, rfl, hj, hown, hall, hblk, hb, hb2⟩ := hrel
    have HO := Lib.hid hown; have HALL := Lib.hid hall; have HBK := Lib.hid hblk; have HB := Lib.hid hb; have HB2 := Lib.hid hb2
    have hxl := hown.len
    obtain ⟨y1, y2, y3, y4, -⟩ := hblk.f4
    by_cases hjl : j < slotsN ws (pcl s)
    · have hjs : j < (slotsL ws (pcl s)).length := by rw [HLEN.out]; exact hjl
      obtain ⟨b5, o5, rfl, -, r5⟩ := (HI2.out.below (by rw [HFE.out]; exact hb2)) (by omega)
      have e1 := r5 j hjs
      have hbs := HBS.out j hjl
      rw [← slotsL_nth HPB.out hjl] at hbs
      have hc1 := hown.cell j (by omega)
      have hf1 := hown.frz j
      have HJ := Lib.hid hjs
      clear hown hall hblk hb hb2 r5 hjs HO6 HF6 HX6 HB6
      have HNE : Hid (∀ y, y = nth (slotsL ws (pcl s)) j → ∀ k, k < j + 1 → nth (xs.set j y) k = nth (slotsL ws (pcl s)) k) := fun y hy k hk => by
        rw [nth_set]
        by_cases e : j = k
        · subst e; rw [if_pos ⟨rfl, by omega⟩, hy]
        · rw [if_neg (fun h => e h.1)]; exact HALL.out k (by omega)
      have HY := Lib.hid (rfl : nth (slotsL ws (pcl s)) j = nth (slotsL ws (pcl s)) j)
      have HNY := Lib.hid (HNE.out _ rfl)
      clear HNE HY
      generalize nth (slotsL ws (pcl s)) j = y at *
      have hby : IntKind.u8.wrap y = y := by rw [IntKind.wrap_u8]; omega
      have hby2 : y % 256 = y := by omega
      go_wp2_with fail
      have hGF : G = F + 1 := HG.out.symm
      go_roundw
      case rel => exact ⟨j + 1, xs.set j y, by go_num, by omega, HO.out.put j y, HNY.out, HBK.out.far (by dsimp only; omega) _, HB.out.setCell (by dsimp only; omega) _, HB2.out.setCell (by dsimp only; omega) _⟩
      case measure => simp [intOf]; omega
    · obtain rfl : j = slotsN ws (pcl s) := by omega
      have hxs : xs = slotsL ws (pcl s) := list_extN (by rw [HLEN.out]; omega) (fun k hk => HALL.out k (by omega))
      rw [hxs] at hown
      have hcv := conv_own hown
      clear hown hall hblk hb hb2 hxs hxl
      go_wp2_with fail
      refine bodyPost_ret (v := .string (strOfNums (slotsL ws (pcl s)))) (by simp [results, Try.results137, go_sem]) rfl ⟨by rw [HTX.out], HB.out⟩
end Go.Proofs.Ytjpppdacamhhfaa
