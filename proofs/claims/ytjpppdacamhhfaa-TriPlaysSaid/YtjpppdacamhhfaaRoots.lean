/- reach.See looks at a heap and roots, the document's Roots too: they compute one plain function. Conditions: numbers of 64 bits. -/
import Derived.Test.YtjpppdacamhhfaaHeap1
import Derived.Test.YtjpppdacamhhfaaRCheck
import Derived.Test.YtjpppdacamhhfaaHSpec4
namespace Go.Proofs.Ytjpppdacamhhfaa
open Go.RowKit
set_option linter.unusedVariables false

/-- A store of what is there changes nothing. -/
theorem setCell_same {w : World} {g i : Nat} {t : TypeId} {cs : Array Value} {v : Value} (h : Blk w g t cs) (hv : cs[i]? = some v) : w.setCell ⟨g, i, none⟩ v = w := by
  have hh : (w.setCell ⟨g, i, none⟩ v).heap = w.heap := by
    apply Array.ext_getElem?
    intro k
    by_cases hk : k = g
    · subst hk
      have h1 := h.set_ i v
      have e : cs.setIfInBounds i v = cs := by
        apply Array.ext_getElem?
        intro j
        rw [Array.getElem?_setIfInBounds]
        split
        · rename_i hj
          subst hj
          obtain ⟨hl, hv'⟩ := Array.getElem?_eq_some_iff.1 hv
          rw [if_pos hl, hv]
        · rfl
      rw [e] at h1
      unfold Blk at h h1
      rw [h1, h]
    · exact Below.heap_setCell w ⟨g, i, none⟩ v k hk
  cases w
  simp only [World.setCell] at hh ⊢
  rw [hh]

/-- The first root, from i on, that does not fit (n: how many are left). -/
def badRoot (ws rs : List Int) : Nat → Nat → Option Nat
  | 0, _ => none
  | n + 1, i => if fitsB ws (nth rs i) = true then badRoot ws rs n (i + 1) else some i
def brFrom (ws rs : List Int) (i : Nat) : Option Nat := badRoot ws rs (rs.length - i) i
theorem brFrom_ok {ws rs : List Int} {i : Nat} (h : i < rs.length) (hf : fitsB ws (nth rs i) = true) : brFrom ws rs i = brFrom ws rs (i + 1) := by
  unfold brFrom
  rw [show rs.length - i = (rs.length - (i + 1)) + 1 from by omega, badRoot, if_pos hf]
theorem brFrom_no {ws rs : List Int} {i : Nat} (h : i < rs.length) (hf : fitsB ws (nth rs i) = false) : brFrom ws rs i = some i := by
  unfold brFrom
  rw [show rs.length - i = (rs.length - (i + 1)) + 1 from by omega, badRoot, if_neg (by rw [hf]; decide)]
theorem brFrom_end {ws rs : List Int} : brFrom ws rs rs.length = none := by
  unfold brFrom; rw [Nat.sub_self]; rfl
/-- What is wrong with a heap and roots. -/
def rootsF (ws rs : List Int) : Int × Nat := if okB ws = true then (match brFrom ws rs 0 with | some i => (3, i) | none => (0, 0)) else checkF ws
def rootsB (ws rs : List Int) : Bool := okB ws && (brFrom ws rs 0).isNone
theorem rootsF_ok {ws rs : List Int} (h1 : okB ws = true) (h2 : brFrom ws rs 0 = none) : rootsF ws rs = (0, 0) := by unfold rootsF; rw [if_pos h1, h2]
theorem rootsF_bad {ws rs : List Int} {i : Nat} (h1 : okB ws = true) (h2 : brFrom ws rs 0 = some i) : rootsF ws rs = (3, i) := by unfold rootsF; rw [if_pos h1, h2]
theorem rootsF_no {ws rs : List Int} (h1 : okB ws = false) : rootsF ws rs = checkF ws := by unfold rootsF; rw [if_neg (by rw [h1]; decide)]
theorem badRoot_none {ws rs : List Int} : ∀ (n i : Nat), badRoot ws rs n i = none → ∀ j, j < n → fitsB ws (nth rs (i + j)) = true
  | 0, _, _, _, h => absurd h (Nat.not_lt_zero _)
  | n + 1, i, h, j, hj => by
    unfold badRoot at h
    split at h
    · rename_i hs
      cases j with
      | zero => simpa using hs
      | succ j =>
        have := badRoot_none n (i + 1) h j (by omega)
        rwa [show i + (j + 1) = i + 1 + j from by omega]
    · cases h
theorem rootsF_zero {ws rs : List Int} (h : (rootsF ws rs).1 = 0) : OkH ws ∧ okB ws = true ∧ brFrom ws rs 0 = none ∧ (∀ o ∈ rs, fitsB ws o = true) ∧ rootsF ws rs = (0, 0) := by
  unfold rootsF at h
  split at h
  · rename_i h1
    split at h
    · cases h
    · rename_i h2
      refine ⟨okB_iff.1 h1, h1, h2, fun o ho => ?_, rootsF_ok h1 h2⟩
      obtain ⟨j, hj, rfl⟩ := List.getElem_of_mem ho
      have := badRoot_none rs.length 0 (by simpa [brFrom] using h2) j hj
      rwa [Nat.zero_add, nth_eq hj] at this
  · rename_i h1
    have := checkF_zero h
    exact absurd this h1

/-- How reach.See ends. -/
def RSeeEnd (ws rs : List Int) (w : World) (e : Ending) (w' : World) : Prop :=
  Below w.heap.size w w' ∧ (((rootsF ws rs).1 ≠ 0 ∧ e = .returned (seeV (rootsF ws rs).1 (rootsF ws rs).2)) ∨
    ((rootsF ws rs).1 = 0 ∧ ∃ g, e = .returned (.tuple #[.pointer (some ⟨g, 0, none⟩), fltV 0 0]) ∧ ViewAt w' g ws))

theorem rseeEnd_bad {ws rs : List Int} {w : World} {f : Int × Nat} (h : rootsF ws rs = f) (h1 : f.1 ≠ 0) : RSeeEnd ws rs w = fun e w' => Below w.heap.size w w' ∧ e = .returned (seeV f.1 f.2) := by
  subst h
  funext e w'
  unfold RSeeEnd
  apply propext
  constructor
  · rintro ⟨hb, ⟨_, he⟩ | ⟨h0, _⟩⟩
    · exact ⟨hb, he⟩
    · exact absurd h0 h1
  · rintro ⟨hb, he⟩
    exact ⟨hb, .inl ⟨h1, he⟩⟩

set_option maxRecDepth 100000 in
set_option maxHeartbeats 4000000 in
theorem rsee_any (ws rs : List Int) (A B : Option Addr) (c d : Nat) (w : World) (hA : Ints w A ws) (hcap : ws.length ≤ c) (hw : I64 ws) (hl : ws.length ≤ 9223372036854775807)
    (hB : Ints w B rs) (hr : I64 rs) (hrl : rs.length ≤ 9223372036854775807) :
    Calls Try.prog 100 #[.agg #[.slice A ws.length c], .slice B rs.length d] w (RSeeEnd ws rs w) := by
  have HA := Lib.hid ((hA.alloc (.cells #[.slice A ws.length c] 33)).alloc (.cells #[.int .i64 0, .int .i64 0] 36)); clear hA
  have HBI := Lib.hid ((hB.alloc (.cells #[.slice A ws.length c] 33)).alloc (.cells #[.int .i64 0, .int .i64 0] 36)); clear hB
  have HW := Lib.hid hw; have HRW := Lib.hid hr; clear hw hr
  have hr0 : Blk ((w.alloc (.cells #[.slice A ws.length c] 33)).alloc (.cells #[.int .i64 0, .int .i64 0] 36)) (w.heap.size + 1) 36 #[.int .i64 0, .int .i64 0] := by
    have := Blk.new (w.alloc (.cells #[.slice A ws.length c] 33)) 36 #[.int .i64 0, .int .i64 0]
    simpa using this
  have HR0 := Lib.hid hr0; clear hr0
  have HL0 : Hid (Below w.heap.size w ((w.alloc (.cells #[.slice A ws.length c] 33)).alloc (.cells #[.int .i64 0, .int .i64 0] 36))) := ((Below.refl _ _).alloc (Nat.le_refl _) _).alloc (by simp) _
  go_enter Try.func100, Try.ntmps100
  go_wp2_with fail
  refine (see_any ws A c _ HA.out hcap HW.out hl).mono ?_
  rintro e w1 ⟨hb1, h⟩
  have HL1 := Lib.hid (HL0.out.trans (hb1.mono (by simp; omega)))
  have HR1 := Lib.hid (HR0.out.below hb1 HR0.out.lt)
  have HB1 := Lib.hid (HBI.out.below hb1)
  clear hb1
  obtain ⟨y1, y2, y3, y4, y5⟩ := HR1.out.f2
  rcases h with ⟨h0, rfl⟩ | ⟨h0, g, rfl, hv⟩
  · have hF := rootsF_no (rs := rs) (checkF_ne h0)
    have HF := Lib.hid hF
    have h1 : ((checkF ws).1 != 0) = true := by simpa using h0
    have HN := Lib.hid h0
    clear h0 hF
    unfold seeV fltV
    go_wp2_with fail
    go_region
    all_goals (try go_wp2)
    all_goals
      rw [rseeEnd_bad HF.out HN.out]
      refine bodyPost_ret (v := seeV (checkF ws).1 (checkF ws).2) (by simp [results, Try.results100, go_sem, seeV, fltV, y1, y2, y5]) rfl ⟨?_, rfl⟩
      repeat (first | exact HL1.out | refine Below.drew ?_ | refine Below.setCell ?_ (by dsimp only; omega) _ | refine Below.alloc ?_ (by simpa using HL1.out.size) _)
  · have hok := checkF_zero h0
    have HV := Lib.hid hv
    have HOK := Lib.hid hok
    clear h0 hv hok
    unfold fltV
    go_wp2_with fail
    have hx2 : Below w1.heap.size w1 (w1.alloc (.cells #[.int .i64 0, .int .i64 0] 36)) := (Below.refl _ _).alloc (Nat.le_refl _) _
    have HF2 := Lib.hid (Blk.new w1 36 #[.int .i64 0, .int .i64 0])
    generalize hw2 : (w1.alloc (.cells #[.int .i64 0, .int .i64 0] 36)) = w2 at *
    clear hw2
    have HL2 := Lib.hid (HL1.out.trans (hx2.mono HL1.out.size))
    have HB2 := Lib.hid (HB1.out.below hx2)
    have HR2 := Lib.hid (HR1.out.below hx2 HR1.out.lt)
    have HV2 := Lib.hid (HV.out.below hx2)
    have hFs : w.heap.size ≤ w1.heap.size := HL1.out.size
    clear hx2 y1 y2 y3 y4 y5
    generalize w1.heap.size = F at *
    obtain ⟨y1, y2, y3, y4, y5⟩ := HR2.out.f2
    obtain ⟨z1, z2, z3, z4, z5⟩ := HF2.out.f2
    go_loop [21] (fun i => ∃ j : Nat, j ≤ rs.length ∧ i = .int .i64 j ∧ brFrom ws rs 0 = brFrom ws rs j) (fun i => rs.length - (intOf i).toNat)
    case atStart => exact ⟨0, Nat.zero_le _, rfl, rfl⟩
    case round =>
      obtain ⟨j, hj, rfl, hbr⟩ := hrel
      have HBR := Lib.hid hbr; clear hbr
      by_cases hlt : j < rs.length
      · obtain ⟨b, o, rfl, hb, hrow⟩ := HB2.out (by omega)
        have hcell := hrow j hlt
        clear hrow
        obtain ⟨t1, t2⟩ := HRW.out j
        cases hf : fitsB ws (nth rs j)
        · have HBN := Lib.hid (HBR.out.trans (brFrom_no hlt hf))
          go_wp2_with (go_at_call 149; refine (fitsv_any HV2.out _ t1 t2).mono ?_; rintro e w' ⟨rfl, rfl⟩)
          rw [rseeEnd_bad (rootsF_bad HOK.out HBN.out) (by simp)]
          refine bodyPost_ret (v := seeV 3 j) (by simp [results, Try.results100, go_sem, seeV, fltV, y1, y2]) rfl ⟨?_, rfl⟩
          repeat (first | exact HL2.out | refine Below.drew ?_ | refine Below.setCell ?_ (by dsimp only; omega) _)
        · have HBN := Lib.hid (HBR.out.trans (brFrom_ok hlt hf))
          go_wp2_with (go_at_call 149; refine (fitsv_any HV2.out _ t1 t2).mono ?_; rintro e w' ⟨rfl, rfl⟩)
          go_round
          case rel => exact ⟨j + 1, by omega, by go_num, HBN.out⟩
          case measure => simp [intOf]; omega
      · obtain rfl : j = rs.length := by omega
        have HBN := Lib.hid (HBR.out.trans brFrom_end)
        go_wp2_with fail
        go_region
        all_goals (try go_wp2)
        all_goals
          have hE := rootsF_ok HOK.out HBN.out
          refine bodyPost_ret (v := .tuple #[.pointer (some ⟨g, 0, none⟩), fltV 0 0]) (by simp [results, Try.results100, go_sem, fltV, y1, y2]) rfl ⟨?_, .inr ⟨by rw [hE], g, rfl, ?_⟩⟩
          · repeat (first | exact HL2.out | refine Below.drew ?_ | refine Below.setCell ?_ (by dsimp only; omega) _)
          · have e1 : w2.setCell ⟨w.heap.size + 1, 0, none⟩ (.int .i64 0) = w2 := setCell_same HR2.out rfl
            have e2 : w2.setCell ⟨w.heap.size + 1, 1, none⟩ (.int .i64 0) = w2 := setCell_same HR2.out rfl
            rw [e1, e2]
            exact HV2.out.drewN 1

set_option maxRecDepth 100000 in
set_option maxHeartbeats 4000000 in
theorem rroots_any (ws rs : List Int) (A B : Option Addr) (c d : Nat) (w : World) (hA : Ints w A ws) (hw : I64 ws) (hl : ws.length ≤ 9223372036854775807)
    (hB : Ints w B rs) (hr : I64 rs) (hrl : rs.length ≤ 9223372036854775807) :
    Calls Try.prog 55 #[.agg #[.slice A ws.length c], .slice B rs.length d] w fun e w' => e = .returned (fltV (rootsF ws rs).1 (rootsF ws rs).2) ∧ Below w.heap.size w w' := by
  have HA := Lib.hid ((hA.alloc (.cells #[.slice A ws.length c] 33)).alloc (.cells #[.int .i64 0, .int .i64 0] 36)); clear hA
  have HBI := Lib.hid ((hB.alloc (.cells #[.slice A ws.length c] 33)).alloc (.cells #[.int .i64 0, .int .i64 0] 36)); clear hB
  have HW := Lib.hid hw; have HRW := Lib.hid hr; clear hw hr
  have hh0 : Blk ((w.alloc (.cells #[.slice A ws.length c] 33)).alloc (.cells #[.int .i64 0, .int .i64 0] 36)) w.heap.size 33 #[.slice A ws.length c] := (Blk.new _ _ _).alloc _
  have hr0 : Blk ((w.alloc (.cells #[.slice A ws.length c] 33)).alloc (.cells #[.int .i64 0, .int .i64 0] 36)) (w.heap.size + 1) 36 #[.int .i64 0, .int .i64 0] := by
    have := Blk.new (w.alloc (.cells #[.slice A ws.length c] 33)) 36 #[.int .i64 0, .int .i64 0]
    simpa using this
  have HR0 := Lib.hid hr0; have HH0 := Lib.hid hh0; clear hr0 hh0
  have HL0 : Hid (Below w.heap.size w ((w.alloc (.cells #[.slice A ws.length c] 33)).alloc (.cells #[.int .i64 0, .int .i64 0] 36))) := ((Below.refl _ _).alloc (Nat.le_refl _) _).alloc (by simp) _
  go_enter Try.func55, Try.ntmps55
  go_wp2_with fail
  refine (rcheck_any ws A c _ HA.out HW.out hl).mono ?_
  rintro e w1 ⟨rfl, hb1⟩
  have HL1 := Lib.hid (HL0.out.trans (hb1.mono (by simp; omega)))
  have HR1 := Lib.hid (HR0.out.below hb1 HR0.out.lt)
  have HH1 := Lib.hid (HH0.out.below hb1 HH0.out.lt)
  have HA1 := Lib.hid (HA.out.below hb1)
  have HB1 := Lib.hid (HBI.out.below hb1)
  clear hb1
  obtain ⟨y1, y2, y3, y4, y5⟩ := HR1.out.f2
  unfold fltV
  cases hc : ((checkF ws).1 != 0)
  · have h0 : (checkF ws).1 = 0 := by simpa using hc
    have hok := checkF_zero h0
    have HOK := Lib.hid hok
    have HOKH := Lib.hid (okB_iff.1 hok)
    rw [checkF_code h0] at hc ⊢
    clear h0 hok hc
    go_wp2_with fail
    have hx2 : Below w1.heap.size w1 (w1.alloc (.cells #[.int .i64 0, .int .i64 0] 36)) := (Below.refl _ _).alloc (Nat.le_refl _) _
    generalize hw2 : (w1.alloc (.cells #[.int .i64 0, .int .i64 0] 36)) = w2 at *
    clear hw2
    have HL2 := Lib.hid (HL1.out.trans (hx2.mono HL1.out.size))
    have HB2 := Lib.hid (HB1.out.below hx2)
    have HA2 := Lib.hid (HA1.out.below hx2)
    have HR2 := Lib.hid (HR1.out.below hx2 HR1.out.lt)
    have HH2 := Lib.hid (HH1.out.below hx2 HH1.out.lt)
    clear hx2 y1 y2 y3 y4 y5
    obtain ⟨y1, y2, y3, y4, y5⟩ := HR2.out.f2
    obtain ⟨x1, x2, x3⟩ := HH2.out.f1
    have hq2 : ws.length ≤ 2000 := HOKH.out.most
    obtain ⟨b, o, rfl, hlt, hrow⟩ := HA2.out (by have := HOKH.out.two; omega)
    have HROW := Lib.hid hrow; clear hrow
    go_loopw [6] (fun i wr => ∃ (j m : Nat), j ≤ rs.length ∧ i = .int .i64 j ∧ wr = w2.drewN m ∧ brFrom ws rs 0 = brFrom ws rs j) (fun i _ => rs.length - (intOf i).toNat)
    case atStart => exact ⟨0, 0, Nat.zero_le _, rfl, rfl, rfl⟩
    case round =>
      obtain ⟨j, m, hj, rfl, rfl, hbr⟩ := hrel
      have HBR := Lib.hid hbr; clear hbr
      by_cases hjl : j < rs.length
      · obtain ⟨b', o', rfl, hb', hrow'⟩ := HB2.out (by omega)
        have hcell := hrow' j hjl
        clear hrow'
        obtain ⟨t1, t2⟩ := HRW.out j
        have g1 : (0 : Int) ≤ (j : Int) := by omega
        have g2 : (j : Int) < (rs.length : Int) := by omega
        have hcall : ∀ n, Calls Try.prog 102 #[.slice (some ⟨b, o, none⟩) ws.length c, .int .i64 (nth rs j)] (w2.drewN n) fun e w' => e = .returned (.bool (fitsB ws (nth rs j))) ∧ ∃ k, w' = w2.drewN k := fun n => quiet_left (rfits_any ws b o c (w2.drewN n) (Row_drewN HROW.out n) HW.out (by omega) HOKH.out.bad _ t1 t2)
        have hcall' : ∀ n k, Calls Try.prog 102 #[.slice (some ⟨b, o, none⟩) ws.length c, .int .i64 (nth rs j)] (w2.drewN (n + k)) fun e w' => e = .returned (.bool (fitsB ws (nth rs j))) ∧ ∃ q, w' = w2.drewN (n + q) := fun n k => quiet_add_left (rfits_any ws b o c (w2.drewN (n + k)) (Row_drewN HROW.out _) HW.out (by omega) HOKH.out.bad _ t1 t2)
        have HC := Lib.hid hcall'
        clear hcall hcall'
        cases hf : fitsB ws (nth rs j)
        · have HBN := Lib.hid (HBR.out.trans (brFrom_no hjl hf))
          have hc2 := HC.out
          rw [hf] at hc2
          have HC2 := Lib.hid hc2; clear hc2
          go_wp2_with fail
          go_quiet ((go_at_call 102; exact HC2.out _ _))
          go_wp2
          have hE := rootsF_bad HOK.out HBN.out
          refine bodyPost_ret (v := fltV 3 j) (by simp [results, Try.results55, go_sem, fltV, y1, y2]) rfl ⟨by rw [hE], ?_⟩
          repeat (first | exact HL2.out | refine Below.drew ?_ | exact HL2.out.trans (belowN _ _ _) | refine Below.setCell ?_ (by dsimp only; omega) _)
        · have HBN := Lib.hid (HBR.out.trans (brFrom_ok hjl hf))
          have hc2 := HC.out
          rw [hf] at hc2
          have HC2 := Lib.hid hc2; clear hc2
          go_wp2_with fail
          go_quiet ((go_at_call 102; exact HC2.out _ _))
          go_wp2
          go_roundw
          case rel => exact ⟨j + 1, _, by omega, by go_num, rfl, HBN.out⟩
          case measure => simp [intOf]; omega
      · obtain rfl : j = rs.length := by omega
        have HBN := Lib.hid (HBR.out.trans brFrom_end)
        go_wp2
        have hE := rootsF_ok HOK.out HBN.out
        refine bodyPost_ret (v := fltV 0 0) (by simp [results, Try.results55, go_sem, fltV, y1, y2]) rfl ⟨by rw [hE], ?_⟩
        repeat (first | exact HL2.out | refine Below.drew ?_ | exact HL2.out.trans (belowN _ _ _) | refine Below.setCell ?_ (by dsimp only; omega) _)
  · have hF := rootsF_no (rs := rs) (checkF_ne (by simpa using hc))
    have HF := Lib.hid hF
    clear hF
    go_wp2
    refine bodyPost_ret (v := fltV (checkF ws).1 (checkF ws).2) (by simp [results, Try.results55, go_sem, fltV, y1, y2, y5]) rfl ⟨by rw [HF.out], ?_⟩
    repeat (first | exact HL1.out | refine Below.drew ?_ | refine Below.setCell ?_ (by dsimp only; omega) _ | refine Below.alloc ?_ (by simpa using HL1.out.size) _)

end Go.Proofs.Ytjpppdacamhhfaa
