/- names.seats and names.seat: where a text is, or would be. Conditions: a table of a heap that may be; a text of at most 60 bytes. -/
import Derived.Test.YtjpppdacamhhfaaNmB
import Derived.RangeFuncNested
import Derived.RangeFuncBound
import Derived.RangeFuncCalls
import Derived.RangeFuncLeaves
import Derived.Shelf.Abstract
import Derived.Shelf.RegionOpen
import Derived.WalkKit
import Derived.OwnWalkIn
import Derived.TacticsInMore
import Derived.LoopNIn
import Derived.LoopIn
import Derived.Laws.IdiomStrings
import Derived.Sort.BigQuietIn
namespace Go.Proofs.Ytjpppdacamhhfaa
open Go.RowKit Go.Shelf
set_option linter.unusedVariables false
attribute [local go_sem] Oper.semAt_some

/-- The byte of a text at a place. -/
def bat (tx : ByteArray) (j : Nat) : Nat := (tx.data[j]?.getD 0).toNat
/-- The sum of the first bytes. -/
def bsum (tx : ByteArray) : Nat → Nat
  | 0 => 0
  | j + 1 => bsum tx j + bat tx j
theorem bat_le (tx : ByteArray) (j : Nat) : bat tx j ≤ 255 := by
  unfold bat; have := (tx.data[j]?.getD 0).toNat_lt; omega
theorem bsum_le (tx : ByteArray) : ∀ j, bsum tx j ≤ 255 * j
  | 0 => Nat.le_refl _
  | j + 1 => by have := bsum_le tx j; have := bat_le tx j; unfold bsum; omega
/-- Is that the slot of the text, or an empty one? -/
def hitB (ws : List Int) (tx : ByteArray) (s : Int) : Bool := s == 0 || (txtS ws s).toList == tx.toList
/-- The slot that is looked at in a round. -/
def atN (tx : ByteArray) (n j : Nat) : Nat := (bsum tx tx.size + j) % n
/-- The rounds from one on. -/
def seatFrom (ws : List Int) (tx : ByteArray) (p j : Nat) : Nat → Int
  | 0 => -1
  | k + 1 => if hitB ws tx (nth (slotsL ws p) (atN tx (slotsN ws p) j)) then (atN tx (slotsN ws p) j : Int) else seatFrom ws tx p (j + 1) k
/-- Where a text is, or would be. -/
def seatF (ws : List Int) (tx : ByteArray) (p : Nat) : Int := seatFrom ws tx p 0 (slotsN ws p)

theorem seatFrom_succ (ws : List Int) (tx : ByteArray) (p j k : Nat) : seatFrom ws tx p j (k + 1) = if hitB ws tx (nth (slotsL ws p) (atN tx (slotsN ws p) j)) then (atN tx (slotsN ws p) j : Int) else seatFrom ws tx p (j + 1) k := rfl
theorem seatFrom_skip {ws : List Int} {tx : ByteArray} {p : Nat} : ∀ {j k : Nat} (i : Nat), i ≤ k → (∀ m, m < i → hitB ws tx (nth (slotsL ws p) (atN tx (slotsN ws p) (j + m))) = false) → seatFrom ws tx p j k = seatFrom ws tx p (j + i) (k - i)
  | j, k, 0, _, _ => rfl
  | j, 0, i + 1, h, _ => absurd h (by omega)
  | j, k + 1, i + 1, h, hm => by
    have h0 := hm 0 (by omega)
    rw [Nat.add_zero] at h0
    rw [seatFrom_succ, h0, if_neg Bool.false_ne_true]
    have := seatFrom_skip (ws := ws) (tx := tx) (p := p) (j := j + 1) (k := k) i (by omega) (fun m hm2 => by have := hm (m + 1) (by omega); rwa [show j + (m + 1) = j + 1 + m by omega] at this)
    rw [this, show k + 1 - (i + 1) = k - i by omega, show j + 1 + i = j + (i + 1) by omega]
theorem seatF_hit {ws : List Int} {tx : ByteArray} {p i : Nat} (hi : i < slotsN ws p) (h : ∀ m, m < i → hitB ws tx (nth (slotsL ws p) (atN tx (slotsN ws p) m)) = false) (hh : hitB ws tx (nth (slotsL ws p) (atN tx (slotsN ws p) i)) = true) : seatF ws tx p = (atN tx (slotsN ws p) i : Int) := by
  unfold seatF
  rw [seatFrom_skip i (by omega) (fun m hm => by rw [Nat.zero_add]; exact h m hm), Nat.zero_add]
  obtain ⟨k, hk⟩ : ∃ k, slotsN ws p - i = k + 1 := ⟨slotsN ws p - i - 1, by omega⟩
  rw [hk]
  rw [seatFrom_succ, hh, if_pos rfl]
theorem seatF_none {ws : List Int} {tx : ByteArray} {p : Nat} (h : ∀ m, m < slotsN ws p → hitB ws tx (nth (slotsL ws p) (atN tx (slotsN ws p) m)) = false) : seatF ws tx p = -1 := by
  unfold seatF
  rw [seatFrom_skip (slotsN ws p) (Nat.le_refl _) (fun m hm => by rw [Nat.zero_add]; exact h m hm), Nat.sub_self]
  rfl

/-- The world behind '[]byte(s)'. -/
def strW (w : World) (tx : ByteArray) : World :=
  w.drew.alloc (.cells (bytesRow tx (grownCap w tx.size 0 5)) 5 ((bytesRow tx (grownCap w tx.size 0 5)).size, (bytesRow tx (grownCap w tx.size 0 5)).size + 1))
theorem conv_str (w : World) (tx : ByteArray) : (convert 9 70 (.string tx)).run Try.prog w = .ok (.slice (some ⟨w.heap.size, 0, none⟩) tx.size (grownCap w tx.size 0 5)) (strW w tx) :=
  run_bytes_of_string w 9 70 5 tx Try.underlying9 Try.underlying70 Try.underlying5
theorem strW_below {w : World} {n : Nat} (tx : ByteArray) (h : n ≤ w.heap.size) : Below n w (strW w tx) := by
  unfold strW
  exact ((Below.refl n w).drew).alloc h _
theorem strW_size (w : World) (tx : ByteArray) : (strW w tx).heap.size = w.heap.size + 1 := by
  unfold strW; rw [World.size_alloc]; rfl
theorem strW_cell (w : World) (tx : ByteArray) {j : Nat} (hj : j < tx.size) : (strW w tx).cell? ⟨w.heap.size, j, none⟩ = some (.int .u8 (bat tx j : Int)) := by
  unfold strW
  have hj' : j < tx.data.size := hj
  have h1 : (bytesRow tx (grownCap w tx.size 0 5))[j]? = some (.int .u8 (bat tx j : Int)) := by
    unfold bytesRow bat
    rw [Array.getElem?_append_left (by rw [Array.size_map]; exact hj')]
    rw [Array.getElem?_map, Array.getElem?_eq_getElem hj']
    simp
  have h2 := World.alloc_heap_new w.drew (.cells (bytesRow tx (grownCap w tx.size 0 5)) 5 ((bytesRow tx (grownCap w tx.size 0 5)).size, (bytesRow tx (grownCap w tx.size 0 5)).size + 1))
  have h3 : w.drew.heap.size = w.heap.size := rfl
  rw [h3] at h2
  unfold World.cell?
  simp only [h2]
  exact h1

theorem strW_grown (W : World) (m : Nat) (tx : ByteArray) : W.grownBy (strW (W.drewN m) tx) none := by
  have h1 : W.grownBy (W.drewN m) none := grownBy_drewN (World.grownBy.refl W none) m
  have h2 : W.grownBy (W.drewN m).drew none := ⟨h1.os, h1.tape, h1.output, h1.size, h1.block⟩
  unfold strW
  exact grownBy_trans h2 (World.grownBy_alloc _ _ _)
/-- What a round is handed: a place and what stands there, which may stand in a table. -/
abbrev SeatX (ws : List Int) : Type := { x : Nat × Int // tslotB ws x.2 = true }
def seatE (ws : List Int) (x : SeatX ws) : Array Value := #[.int .i64 (x.1.1 : Int), .int .i64 x.1.2]
theorem tslot_at {ws : List Int} {o : Int} (h : tabB ws o = true) (j : Nat) (hj : j < slotsN ws (pcl o)) (hl : (slotsL ws (pcl o)).length = slotsN ws (pcl o)) : tslotB ws (nth (slotsL ws (pcl o)) j) = true := by
  unfold tabB at h
  rw [Bool.and_eq_true, Bool.and_eq_true, Bool.and_eq_true, List.all_eq_true] at h
  rw [nth_eq (by omega)]
  exact h.2.2.2 _ (List.getElem_mem _)
theorem tab_parts {ws : List Int} {o : Int} (h : tabB ws o = true) : isTh ws o = true ∧ formOf ws (pcl o) = 0 ∧ 0 < slotsN ws (pcl o) := by
  unfold tabB at h
  rw [Bool.and_eq_true, Bool.and_eq_true, Bool.and_eq_true, decide_eq_true_iff, decide_eq_true_iff] at h
  exact ⟨h.1, h.2.1, h.2.2.1⟩

theorem seats_any (T : Nat) (tx : ByteArray) (w : World) :
    Calls Try.prog 158 #[.pointer (some ⟨T, 0, none⟩), .string tx] w fun e w' =>
      e = .returned (.func (.func 167) #[] #[.pointer (some ⟨w.heap.size, 0, none⟩), .pointer (some ⟨w.heap.size + 1, 0, none⟩)]) ∧
      w' = (w.alloc (.cells #[.pointer (some ⟨T, 0, none⟩)] 159)).alloc (.cells #[.string tx] 9) := by
  go_enter Try.func158, Try.ntmps158
  go_wp2_with fail
  refine bodyPost_ret (v := .func (.func 167) #[] #[.pointer (some ⟨w.heap.size, 0, none⟩), .pointer (some ⟨w.heap.size + 1, 0, none⟩)]) (by simp [results, Try.results158, go_sem]) rfl ⟨rfl, rfl⟩

def seatUp (ws : List Int) (f : Nat → SeatX ws) (k : Nat) : List (SeatX ws) := (List.range k).map f
theorem seatUp_succ (ws : List Int) (f : Nat → SeatX ws) (k : Nat) : seatUp ws f (k + 1) = seatUp ws f k ++ [f k] := by simp [seatUp, List.range_succ]
theorem seatUp_length (ws : List Int) (f : Nat → SeatX ws) (k : Nat) : (seatUp ws f k).length = k := by simp [seatUp]

set_option maxRecDepth 100000 in
set_option maxHeartbeats 4000000 in
theorem seats_in (ws : List Int) (tx : ByteArray) (p : Nat) (l BT BX T g n₀ : Nat) (hpb : badB ws p = false) (hok : OkH ws) (hwi : I64 ws) (htx : tx.size ≤ 60) (hsl : 0 < slotsN ws p) (f : Nat → SeatX ws)
    (hf : ∀ j, j < slotsN ws p → (f j).1 = (atN tx (slotsN ws p) j, nth (slotsL ws p) (atN tx (slotsN ws p) j))) (J Jx : List (SeatX ws) → World → Prop) (hJa : ∀ s W W', J s W → W.grownBy W' none → J s W')
    (hY : ∀ pre x W, J pre W → pre.length < slotsN ws p → YieldAt Fence.wide 5 Try.prog l (seatE ws x) W fun e W' =>
      (e = .returned (.bool true) ∧ J (pre ++ [x]) W' ∧ Below n₀ W W') ∨ (e = .returned (.bool false) ∧ Jx (pre ++ [x]) W'))
    (w W : World) (hn₀ : n₀ = w.heap.size) (hW : Below w.heap.size w W) (h1 : W.cell? ⟨BT, 0, none⟩ = some (.pointer (some ⟨T, 0, none⟩))) (h2 : W.cell? ⟨BX, 0, none⟩ = some (.string tx)) (hT : Blk w T 164 #[.pointer (some ⟨g, 0, none⟩), .int .i64 (p : Int)]) (hv : ViewAt w g ws) (h0 : J [] W) :
    CallsIn Fence.wide 6 Try.prog 167 #[.func (.yield l) #[] #[], .pointer (some ⟨BT, 0, none⟩), .pointer (some ⟨BX, 0, none⟩)] W fun e W' => (∃ v, e = .returned v) ∧
      ((∃ ys, ys = seatUp ws f (slotsN ws p) ∧ J ys W') ∨ (∃ pre, (∃ k, k ≤ slotsN ws p ∧ pre = seatUp ws f k) ∧ Jx pre W')) := by
  obtain ⟨b, o, c, M, n, ff, A, oc, hg, hlt, hblk, hc, hr, hm, hfi, hi⟩ := hv.at_
  have hbn : b < n₀ := by rw [hn₀]; exact hlt
  have hT := hT.below hW hT.lt
  have hblk := (hW.block g hg).trans hblk
  have hr := hr.below hW hlt
  have hlt : b < W.heap.size := Nat.lt_of_lt_of_le hlt hW.size
  have hq1 : ws.length ≤ 2000 := hok.most
  have HSL := fun (m : Nat) => slots_any ws g b o c p (W.drewN m) (cell_of_row W g 0 _ 112 (0, 0) hblk) (Row_drewN hr m) hwi (by omega) hpb hc
  refine callsIn_of_wp Try.func167 rfl trivial ?_ rfl
  simp only [Try.ntmps167, List.size_toArray, List.length_cons, List.length_nil, Nat.reduceAdd, Nat.reduceSub, Array.replicate_succ, Array.replicate_zero, List.push_toArray, List.append_toArray, List.nil_append, List.cons_append]
  have hT1 := (hT.f2).1
  obtain ⟨t1, t2, t3, t4, t5⟩ := hT.f2
  gi_wp2
  refine wpIn_region_quiet_lit rfl (by kernel_rfl) (by kernel_rfl) ?_
  repeat (gi_big_quiet_step (fail))
  refine BigFrame.wpQuietIn_want (fun _ _ _ _ => trivial) rfl ?_
  intro K hK
  gi_big_quiet_op
  gi_big_quiet_call ((gi_at_call 98; exact callsIn_wide.2 (quiet_draws (HSL _))))
  repeat (gi_big_quiet_step (fail))
  refine wpQuietIn_nil ?_
  rintro _ ⟨nq, rfl⟩
  obtain ⟨W5, hcv, hgr5, hc5, hs5⟩ : ∃ W5 : World, (convert 9 70 (.string tx)).run Try.prog (W.drewN nq) = .ok (.slice (some ⟨W.heap.size, 0, none⟩) tx.size (grownCap (W.drewN nq) tx.size 0 5)) W5 ∧ W.grownBy W5 none ∧ (∀ j, j < tx.size → W5.cell? ⟨W.heap.size, j, none⟩ = some (.int .u8 (bat tx j : Int))) ∧ W5.heap.size = W.heap.size + 1 := by
    have hsz : (W.drewN nq).heap.size = W.heap.size := by simp
    refine ⟨strW (W.drewN nq) tx, ?_, strW_grown W nq tx, fun j hj => ?_, ?_⟩
    · have := conv_str (W.drewN nq) tx; rwa [hsz] at this
    · have := strW_cell (W.drewN nq) tx hj; rwa [hsz] at this
    · rw [strW_size, hsz]
  generalize grownCap (W.drewN nq) tx.size 0 5 = cap5 at *
  have hJ5 := hJa _ _ _ h0 hgr5
  have hX5 : Below W.heap.size W W5 := (Below.refl _ W).grown hgr5 (Nat.le_refl _) (fun _ e => nomatch e)
  have hn60 : slotsN ws p ≤ 60 := by have := not_bad hpb; unfold slotsN; omega
  have hne := slotsA_ne b o c p (by have := not_bad hpb; unfold slotsN at hsl; omega)
  have hsi := ints_slots hr hlt hpb hc
  rw [hne] at hsi ⊢
  have hlen := slotsL_len hpb
  obtain ⟨b', o', e', -, hsi⟩ := hsi (by omega)
  cases e'
  have HSI := Lib.hid hsi
  have HLEN := Lib.hid hlen
  clear hsi hlen hne
  have HF := Lib.hid hf; have HY := Lib.hid hY; have HC5 := Lib.hid hc5; have HX := Lib.hid hX5; have HJ5 := Lib.hid hJ5; have HGN := Lib.hid hbn
  have HPB := Lib.hid hpb
  have HSS := Lib.hid (bsum_le tx)
  clear HSL hf hY hc5 hJ5 hbn hJa h0 hblk hr hm hfi hi hok hwi hpb hT hv hT1 t1 t2 t3 t4 t5 hc hgr5 h1
  gi_wp2
  gi_loopw [22, 5] (fun i v wr => ∃ j : Nat, i = .int .i64 (j : Int) ∧ j ≤ tx.size ∧ v = .int .i64 (bsum tx j : Int) ∧ W5 = wr) (fun i _ _ => tx.size - (intOf i).toNat)
  case atStart => exact ⟨0, rfl, Nat.zero_le _, rfl, rfl⟩
  case round =>
    obtain ⟨j, rfl, hj, rfl, rfl⟩ := hrel
    by_cases hjl : j < tx.size
    · have e1 := HC5.out j hjl
      have hb := bat_le tx j
      have hs := HSS.out j
      have hwb : IntKind.i64.wrap ((bat tx j : Nat) : Int) = ((bat tx j : Nat) : Int) := IntWalk.i64_in _ (by omega)
      have hwp : IntKind.i64.wrap ((bsum tx j : Nat) + (bat tx j : Nat) : Int) = ((bsum tx (j + 1) : Nat) : Int) := by
        rw [IntWalk.i64_in _ (by omega)]; show _ = ((bsum tx j + bat tx j : Nat) : Int); omega
      gi_wp2
      go_roundw
      case rel => exact ⟨j + 1, by go_num, by omega, (by first | rfl | (show _ = _; unfold bsum; go_num)), (by first | rfl | trivial)⟩
      case measure => simp [intOf]; omega
    · obtain rfl : j = tx.size := by omega
      clear hcv hj HC5
      have hs := HSS.out tx.size
      gi_wp2
      gi_loopw [33] (fun i wr => ∃ j : Nat, i = .int .i64 (j : Int) ∧ j ≤ slotsN ws p ∧ J (seatUp ws f j) wr ∧ Below n₀ W5 wr) (fun i _ => slotsN ws p - (intOf i).toNat)
      case atStart => exact ⟨0, rfl, Nat.zero_le _, HJ5.out, Below.refl _ _⟩
      case round =>
        obtain ⟨j, rfl, hj, hJ, hB⟩ := hrel
        by_cases hjl : j < slotsN ws p
        · have hat : atN tx (slotsN ws p) j < slotsN ws p := Nat.mod_lt _ (by omega)
          have hate : (bsum tx tx.size + j) % slotsN ws p = atN tx (slotsN ws p) j := rfl
          have e1 := HSI.out (atN tx (slotsN ws p) j) (by rw [HLEN.out]; exact hat)
          rw [← hX5.cell (p := ⟨b, _, none⟩) hlt, ← hB.cell (p := ⟨b, _, none⟩) HGN.out] at e1
          have hy1 := HY.out (seatUp ws f j) (f j) wr hJ (by rw [seatUp_length]; exact hjl)
          have hse : seatE ws (f j) = #[.int .i64 (atN tx (slotsN ws p) j : Int), .int .i64 (nth (slotsL ws p) (atN tx (slotsN ws p) j))] := by unfold seatE; rw [HF.out j hjl]
          rw [hse, ← seatUp_succ] at hy1
          generalize atN tx (slotsN ws p) j = q at *
          generalize nth (slotsL ws p) q = sv at *
          obtain ⟨fn, tmps, assign, body, hy, hR⟩ := hy1
          have hrm : (((bsum tx tx.size : Nat) : Int) + ((j : Nat) : Int)) % ((slotsN ws p : Nat) : Int) = ((q : Nat) : Int) := by
            rw [← hate]; push_cast; rfl
          have hwq : IntKind.i64.wrap ((q : Nat) : Int) = ((q : Nat) : Int) := IntWalk.i64_in _ (by omega)
          clear hate hse
          gi_wp2
          refine hR.mono ?_
          rintro e W6 (⟨rfl, hJ3, hk3⟩ | ⟨rfl, hJx3⟩)
          · gi_wp2
            go_roundw
            case rel => exact ⟨j + 1, by go_num, by omega, hJ3, hB.trans hk3⟩
            case measure => simp [intOf]; omega
          · gi_wp2
            refine bodyPost_ret (results_none rfl _ _ _) rfl ?_
            exact ⟨⟨_, rfl⟩, .inr ⟨_, ⟨j + 1, by omega, rfl⟩, hJx3⟩⟩
        · obtain rfl : j = slotsN ws p := by omega
          gi_wp2
          go_end0
          exact ⟨⟨_, rfl⟩, .inl ⟨_, rfl, hJ⟩⟩

theorem seats_stops (ws : List Int) (tx : ByteArray) (p : Nat) (BT BX T g n₀ : Nat) (hpb : badB ws p = false) (hok : OkH ws) (hwi : I64 ws) (htx : tx.size ≤ 60) (hsl : 0 < slotsN ws p) (f : Nat → SeatX ws)
    (hf : ∀ j, j < slotsN ws p → (f j).1 = (atN tx (slotsN ws p) j, nth (slotsL ws p) (atN tx (slotsN ws p) j))) (w : World) (hn₀ : n₀ = w.heap.size) (h1 : w.cell? ⟨BT, 0, none⟩ = some (.pointer (some ⟨T, 0, none⟩))) (h2 : w.cell? ⟨BX, 0, none⟩ = some (.string tx))
    (hBT : BT < w.heap.size) (hBX : BX < w.heap.size) (hT : Blk w T 164 #[.pointer (some ⟨g, 0, none⟩), .int .i64 (p : Int)]) (hv : ViewAt w g ws) :
    SeqStopsK Fence.wide 6 Try.prog 167 #[.pointer (some ⟨BT, 0, none⟩), .pointer (some ⟨BX, 0, none⟩)] (seatE ws) (Below n₀) (fun ys => ys = seatUp ws f (slotsN ws p)) (fun pre => ∃ k, k ≤ slotsN ws p ∧ pre = seatUp ws f k) (slotsN ws p) w := fun l J Jx W hW hJ _ hY h0 => by
  subst hn₀
  exact seats_in ws tx p l BT BX T g w.heap.size hpb hok hwi htx hsl f hf J Jx (fun s W1 W2 hs hg => hJ s W1 W2 none hs hg (fun r e => nomatch e)) hY w W rfl hW ((hW.cell (p := ⟨BT, 0, none⟩) hBT).trans h1) ((hW.cell (p := ⟨BX, 0, none⟩) hBX).trans h2) hT hv h0
theorem keepsOthers_below {W W' : World} (h : Below W.heap.size W W') : KeepsOthers W W' := ⟨h.size, fun j o hj _ => (h.block j (Array.getElem?_eq_some_iff.1 hj).1).trans hj⟩

set_option maxRecDepth 100000 in
set_option maxHeartbeats 4000000 in
theorem seat_any (ws : List Int) (tx : ByteArray) (o : Int) (T g : Nat) (w : World) (hok : OkH ws) (hwi : I64 ws) (htx : tx.size ≤ 60) (htab : tabB ws o = true) (hT : Blk w T 164 #[.pointer (some ⟨g, 0, none⟩), .int .i64 (pcl o : Int)]) (hv : ViewAt w g ws) :
    Calls Try.prog 134 #[.pointer (some ⟨T, 0, none⟩), .string tx] w fun e w' => e = .returned (.int .i64 (seatF ws tx (pcl o))) ∧ Below w.heap.size w w' := by
  obtain ⟨hth, hfm, hsl⟩ := tab_parts htab
  obtain ⟨hm, -, -, -⟩ := isTh_mem hth
  obtain ⟨-, -, hpb⟩ := places_mem (q := pcl o) hm
  have hlen := slotsL_len hpb
  have hmod : ∀ j, atN tx (slotsN ws (pcl o)) j < slotsN ws (pcl o) := fun j => Nat.mod_lt _ hsl
  obtain ⟨f, hf⟩ : ∃ f : Nat → SeatX ws, ∀ j, (f j).1 = (atN tx (slotsN ws (pcl o)) j, nth (slotsL ws (pcl o)) (atN tx (slotsN ws (pcl o)) j)) :=
    ⟨fun j => ⟨_, tslot_at htab _ (hmod j) hlen⟩, fun j => rfl⟩
  refine (callsIn_wide (n := 7)).1 ?_
  refine callsIn_of_wp_marks Try.func134 rfl trivial ?_ rfl
  simp only [Try.ntmps134, List.size_toArray, List.length_cons, List.length_nil, Nat.reduceAdd, Nat.reduceSub, Array.replicate_succ, Array.replicate_zero, List.push_toArray, List.append_toArray, List.nil_append, List.cons_append]
  gi_wp2_with (refine ⟨trivial, ?_⟩; gi_at_call 158; refine (callsIn_wide.2 (seats_any T tx _)).mono ?_; rintro e w' ⟨rfl, rfl⟩)
  have b0 := Blk.new w 159 #[.pointer (some ⟨T, 0, none⟩)]
  have b1 := Blk.new (w.alloc (.cells #[.pointer (some ⟨T, 0, none⟩)] 159)) 9 #[.string tx]
  have b2 := Blk.new ((w.alloc (.cells #[.pointer (some ⟨T, 0, none⟩)] 159)).alloc (.cells #[.string tx] 9)) 3 #[.int .i64 0]
  have b3 := Blk.new (((w.alloc (.cells #[.pointer (some ⟨T, 0, none⟩)] 159)).alloc (.cells #[.string tx] 9)).alloc (.cells #[.int .i64 0] 3)) 159 #[.pointer (some ⟨T, 0, none⟩)]
  have b4 := Blk.new ((((w.alloc (.cells #[.pointer (some ⟨T, 0, none⟩)] 159)).alloc (.cells #[.string tx] 9)).alloc (.cells #[.int .i64 0] 3)).alloc (.cells #[.pointer (some ⟨T, 0, none⟩)] 159)) 9 #[.string tx]
  simp only [World.size_alloc] at b1 b2 b3 b4 ⊢
  have b0 := (((b0.alloc (.cells #[.string tx] 9)).alloc (.cells #[.int .i64 0] 3)).alloc (.cells #[.pointer (some ⟨T, 0, none⟩)] 159)).alloc (.cells #[.string tx] 9)
  have b1 := ((b1.alloc (.cells #[.int .i64 0] 3)).alloc (.cells #[.pointer (some ⟨T, 0, none⟩)] 159)).alloc (.cells #[.string tx] 9)
  have b2 := (b2.alloc (.cells #[.pointer (some ⟨T, 0, none⟩)] 159)).alloc (.cells #[.string tx] 9)
  have b3 := b3.alloc (.cells #[.string tx] 9)
  have hx : Below w.heap.size w (((((w.alloc (.cells #[.pointer (some ⟨T, 0, none⟩)] 159)).alloc (.cells #[.string tx] 9)).alloc (.cells #[.int .i64 0] 3)).alloc (.cells #[.pointer (some ⟨T, 0, none⟩)] 159)).alloc (.cells #[.string tx] 9)) :=
    (((((Below.refl _ w).alloc (Nat.le_refl _) _).alloc (by simp) _).alloc (by simp; omega) _).alloc (by simp; omega) _).alloc (by simp; omega) _
  have hsz : (((((w.alloc (.cells #[.pointer (some ⟨T, 0, none⟩)] 159)).alloc (.cells #[.string tx] 9)).alloc (.cells #[.int .i64 0] 3)).alloc (.cells #[.pointer (some ⟨T, 0, none⟩)] 159)).alloc (.cells #[.string tx] 9)).heap.size = w.heap.size + 5 := by simp
  generalize (((((w.alloc (.cells #[.pointer (some ⟨T, 0, none⟩)] 159)).alloc (.cells #[.string tx] 9)).alloc (.cells #[.int .i64 0] 3)).alloc (.cells #[.pointer (some ⟨T, 0, none⟩)] 159)).alloc (.cells #[.string tx] 9)) = w0 at *
  have hT0 := hT.below hx hT.lt
  have hv0 := hv.below hx
  refine wpIn_rangeFunc_ownG rfl (by omega) (gf := 167) (lb := #[.pointer (some ⟨w.heap.size + 1 + 1 + 1, 0, none⟩), .pointer (some ⟨w.heap.size + 1 + 1 + 1 + 1, 0, none⟩)]) rfl trivial (enters_of Try.func167 (by kernel_rfl) rfl)
    (seats_stops ws tx (pcl o) (w.heap.size + 1 + 1 + 1) (w.heap.size + 1 + 1 + 1 + 1) T g w0.heap.size hpb hok hwi htx hsl f (fun j _ => hf j) w0 rfl (b3.cell 0) (b4.cell 0) (by omega) (by omega) hT0 hv0) belowK_t (belowK_b (Nat.le_refl _)) (Below.refl _ _) (fun _ => rfl)
    (fun pre W => (∀ x ∈ pre, hitB ws tx x.1.2 = false) ∧ Below w0.heap.size w0 W)
    (fun c pre W => (c = .ret ∧ ∃ ini last, pre = ini ++ [last] ∧ (∀ x ∈ ini, hitB ws tx x.1.2 = false) ∧ hitB ws tx last.1.2 = true ∧ W.cell? ⟨w.heap.size + 1 + 1, 0, none⟩ = some (.int .i64 (last.1.1 : Int))) ∧ Below w.heap.size w W)
    (OwnFrom.and (fun s A B row hs hg hr => hs) (ownFrom_below (Nat.le_refl _) (Nat.le_refl _)))
    (fun c => OwnFrom.and (Own.from (fun s A B row hs hg hr => by obtain ⟨hc, ini, last, e1, e2, e3, e4⟩ := hs; exact ⟨hc, ini, last, e1, e2, e3, cell_kept e4 hg hr⟩) _) (ownFrom_below (Nat.le_refl _) (by omega)))
    ⟨(fun x hx => nomatch hx), Below.refl _ _⟩
    (fun x => { tmps := #[.pointer (some ⟨T, 0, none⟩), .string tx, .pointer (some ⟨w.heap.size, 0, none⟩), .pointer (some ⟨w.heap.size + 1, 0, none⟩), .pointer (some ⟨w.heap.size + 1 + 1, 0, none⟩), .int .i64 (x.1.1 : Int), .int .i64 x.1.2, .pointer (some ⟨T, 0, none⟩), .string tx, .func (.func 167) #[] #[.pointer (some ⟨w.heap.size + 1 + 1 + 1, 0, none⟩), .pointer (some ⟨w.heap.size + 1 + 1 + 1 + 1, 0, none⟩)], .int .i64 (x.1.1 : Int), .int .i64 x.1.2, undef, undef, undef, undef, undef, undef, undef, undef, undef, undef], defers := [] }) ?assign ?body ?done ?stop
  case assign =>
    intro l x W K hK
    unfold seatE
    gi_wp2
    exact hK
  case body =>
    rintro l pre x W ⟨hp, hB⟩ _
    have hBw : Below w.heap.size w W := hx.trans (hB.mono (by omega))
    obtain ⟨c0, -, -⟩ := (b0.below hB b0.lt).f1
    obtain ⟨c1, -, -⟩ := (b1.below hB b1.lt).f1
    obtain ⟨c2, f2, l2⟩ := (b2.below hB b2.lt).f1
    have hTW := hT0.below hB hT0.lt
    have hvW := hv0.below hB
    have hWs := hB.size
    have hf136 : Fence.wide.fn 136 := trivial
    have hmx : Try.prog.follows .mixedOrders = true := by kernel_rfl
    have hts := x.2
    generalize hk : x.1.1 = k at *
    generalize hs : x.1.2 = s at *
    have HKK := Lib.hid hk
    have HS := Lib.hid hs
    have HP := Lib.hid hp
    clear hk hs hp
    by_cases hs0 : s = 0
    · have hh : hitB ws tx s = true := by unfold hitB; rw [hs0]; rfl
      have HH := Lib.hid hh
      have HS0 := Lib.hid hs0
      clear hh hts hs0
      have hsb : (s == 0) = true := by rw [HS0.out]; rfl
      gi_wp2
      gi_region_with_o (fail)
      all_goals gi_wp2
      all_goals exact ⟨((KeepsOthers.setCell _ _ _).trans (KeepsOthers.drew _)).from _, ⟨rfl, pre, x, rfl, HP.out, by rw [HS.out]; exact HH.out, by rw [HKK.out, cell_drew_own]; exact World.cell?_setCell_same' _ _ _ (by rw [c2]; rfl)⟩, (hBw.setCell (p := ⟨w.heap.size + 1 + 1, 0, none⟩) (by simp; omega) _).drew⟩
    · have hth' : isTh ws s = true ∧ formOf ws (pcl s) = 1 := by
        unfold tslotB at hts
        rw [Bool.or_eq_true, Bool.and_eq_true, decide_eq_true_iff] at hts
        rcases hts with h | h
        · exact absurd (eq_of_beq h) hs0
        · exact h
      have hsb : (s == 0) = false := by simpa using hs0
      have hhe : hitB ws tx s = ((txtS ws s).toList == tx.toList) := by unfold hitB; rw [hsb]; rfl
      have HTX := fun W1 (h1 : Below W.heap.size W W1) => text_any ws T g _ s W1 (hTW.below h1 hTW.lt) (hvW.below h1) hok hwi hth'.1 hth'.2
      have HHE := Lib.hid hhe
      have HS0 := Lib.hid hs0
      have HT3 := Lib.hid HTX
      clear hhe hs0 hts hth' HTX
      cases hq : ((txtS ws s).toList == tx.toList)
      · rw [hq] at HHE
        have HALL : Hid (∀ y ∈ pre ++ [x], hitB ws tx y.1.2 = false) := fun y hy => by
          rcases List.mem_append.1 hy with h | h
          · exact HP.out y h
          · rw [List.mem_singleton.1 h, HS.out]; exact HHE.out
        gi_wp2
        gi_region_with_o (gi_at_call 136; refine (CallsIn.inRound l (callsIn_wide.2 (HT3.out _ (Below.refl _ _).drew))).mono ?_; rintro e W3 ⟨rfl, hb3⟩; have hB3 := ((Below.refl W.heap.size W).drew.trans hb3); have c13 := (hB3.cell (p := ⟨w.heap.size + 1, 0, none⟩) (by simp; omega)).trans c1)
        all_goals gi_wp2
        all_goals exact ⟨(keepsOthers_below hB3).from _, hB3.mono hWs, HALL.out, hB.trans (hB3.mono hWs)⟩
      · rw [hq] at HHE
        gi_wp2
        gi_region_with_o (gi_at_call 136; refine (CallsIn.inRound l (callsIn_wide.2 (HT3.out _ (Below.refl _ _).drew))).mono ?_; rintro e W3 ⟨rfl, hb3⟩; have hB3 := ((Below.refl W.heap.size W).drew.trans hb3); have c13 := (hB3.cell (p := ⟨w.heap.size + 1, 0, none⟩) (by simp; omega)).trans c1; have h23 := ((b2.below hB b2.lt).below hB3 l2).f1; have c23 := h23.1; have f23 := h23.2.1)
        all_goals gi_wp2
        all_goals exact ⟨((keepsOthers_below hB3).trans (KeepsOthers.setCell _ _ _)).from _, ⟨rfl, pre, x, rfl, HP.out, by rw [HS.out]; exact HHE.out, by rw [HKK.out]; exact World.cell?_setCell_same' _ _ _ (by rw [c23]; rfl)⟩, (hBw.trans (hB3.mono (by omega))).setCell (p := ⟨w.heap.size + 1 + 1, 0, none⟩) (by simp; omega) _⟩
  case done =>
    rintro D ys W hD rfl ⟨hne, hB⟩ hK
    obtain ⟨hcr, hfr, hlr⟩ := (b2.below hB b2.lt).f1
    have hBw : Below w.heap.size w W := hx.trans (hB.mono (by omega))
    have hse : seatF ws tx (pcl o) = -1 := seatF_none (fun m hm => by
      have := hne (f m) (by simp only [seatUp, List.mem_map, List.mem_range]; exact ⟨m, hm, rfl⟩)
      rwa [hf m] at this)
    have HSE := Lib.hid hse
    clear hse hne
    gi_wp2
    have hK' := (KeepsOthers.setCell W ⟨w.heap.size + 1 + 1, 0, none⟩ (.int .i64 (-1))).same D _ hK rfl
    refine ⟨by simp, .inl ⟨_, _, rfl, run_takeDeferred hK', ?_⟩⟩
    have hc5 := cell_kept (World.cell?_setCell_same' W ⟨w.heap.size + 1 + 1, 0, none⟩ (.int .i64 (-1)) (by rw [hcr]; rfl)) (grownBy_putObj' _ D (.deferred none)) (fun r e => by cases e; exact ⟨_, hK', rfl⟩)
    refine ⟨.int .i64 (-1), ?_, by rw [HSE.out], (hBw.setCell (p := ⟨w.heap.size + 1 + 1, 0, none⟩) (by simp; omega) _).trans (belowK_b (w := w) (Nat.le_refl _) _ D _ _ (by omega) hK' rfl rfl)⟩
    simp [results, Try.results134, go_sem, hc5]
  case stop =>
    rintro D c pre W hD ⟨k, hk, rfl⟩ ⟨⟨rfl, ini, last, e1, e2, e3, hcr⟩, hB⟩ hK
    gi_wp2
    refine ⟨by simp, .inl ⟨_, _, rfl, run_takeDeferred hK, ?_⟩⟩
    have hc5 := cell_kept hcr (grownBy_putObj' _ D (.deferred none)) (fun r e => by cases e; exact ⟨_, hK, rfl⟩)
    obtain ⟨k', rfl⟩ : ∃ k', k = k' + 1 := by
      cases k with
      | zero => simp [seatUp] at e1
      | succ k' => exact ⟨k', rfl⟩
    rw [seatUp_succ] at e1
    obtain ⟨rfl, e5⟩ := List.append_inj' e1 rfl
    obtain rfl : f k' = last := by simpa using e5
    rw [hf k'] at e3 hc5
    have hse : seatF ws tx (pcl o) = (atN tx (slotsN ws (pcl o)) k' : Int) := seatF_hit (by omega) (fun m hm => by
      have := e2 (f m) (by simp only [seatUp, List.mem_map, List.mem_range]; exact ⟨m, hm, rfl⟩)
      rwa [hf m] at this) e3
    refine ⟨.int .i64 (atN tx (slotsN ws (pcl o)) k' : Int), ?_, by rw [hse], hB.trans (belowK_b (w := w) (Nat.le_refl _) W D _ _ (by omega) hK rfl rfl)⟩
    simp [results, Try.results134, go_sem, hc5]
end Go.Proofs.Ytjpppdacamhhfaa
