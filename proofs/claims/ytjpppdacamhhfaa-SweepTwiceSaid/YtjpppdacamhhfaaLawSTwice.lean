/- What SweepTwice' code computes. Conditions: the words are numbers of 64 bits. -/
import Derived.Test.YtjpppdacamhhfaaAlkG
import Derived.Test.YtjpppdacamhhfaaCollect
import Derived.Test.YtjpppdacamhhfaaMSpec
namespace Go.Proofs.Ytjpppdacamhhfaa
open Go.RowKit
set_option linter.unusedVariables false



section
variable (xs ys : List Int) (A B : Option Addr) (c d : Nat) (w : World) (hA : Ints w A xs) (hB : Ints w B ys) (hl : xs.length ≤ 1000000000)
include hA hB hl
theorem kints_any : Calls Try.prog 58 #[.slice A xs.length c, .slice B ys.length d] w fun e w' => e = .returned (.bool (eqB xs ys)) ∧ ∃ m, w' = w.drewN m := by
  have HA := Lib.hid hA; clear hA
  have HB := Lib.hid hB; clear hB
  by_cases hlen : xs.length = ys.length
  · have HL := Lib.hid hlen
    have hle : xs.length ≤ ys.length := by omega
    have hge : ys.length ≤ xs.length := by omega
    have hd : ((xs.length : Int) != (ys.length : Int)) = false := by simp; omega
    clear hlen
    go_enter Try.func58, Try.ntmps58
    go_wp2_with fail
    go_loopw [5] (fun i wr => ∃ (k m : Nat), k ≤ xs.length ∧ i = .int .i64 k ∧ wr = w.drewN m ∧ ∀ j, j < k → nth xs j = nth ys j) (fun i _ => xs.length - (intOf i).toNat)
    case atStart => exact ⟨0, 0, Nat.zero_le _, rfl, rfl, fun j hj => absurd hj (Nat.not_lt_zero _)⟩
    case round =>
      obtain ⟨k, m, hk, rfl, rfl, hall⟩ := hrel
      have HALL := Lib.hid hall; clear hall
      by_cases hlt : k < xs.length
      · obtain ⟨b, o, rfl, _, hr⟩ := HA.out (by omega)
        obtain ⟨b', o', rfl, _, hr'⟩ := HB.out (by omega)
        have h1 := hr k hlt
        have h2 := hr' k (by omega)
        have f1 : (0 : Int) ≤ (k : Int) := by omega
        have f2 : (k : Int) < (xs.length : Int) := by omega
        have f3 : (k : Int) < (ys.length : Int) := by omega
        clear hr hr'
        cases he : (nth xs k != nth ys k)
        · have he' : nth xs k = nth ys k := by simpa using he
          have HE := Lib.hid he'; clear he'
          go_wp2_with fail
          go_quiet (fail)
          go_wp2
          go_roundw
          case rel => exact ⟨k + 1, _, by omega, by go_num, rfl, fun j hj => by rcases Nat.lt_or_ge j k with h | h; exact HALL.out j h; obtain rfl : j = k := by omega
                                                                                exact HE.out⟩
          case measure => simp [intOf]; omega
        · have he' : nth xs k ≠ nth ys k := by simpa using he
          have HE := Lib.hid (eqB_nth he'); clear he'
          go_wp2_with fail
          go_quiet (fail)
          go_wp2
          go_ret
          exact ⟨ret_bool HE.out.symm, _, World.drewN_drewN ..⟩
      · have HE := Lib.hid (eqB_all HL.out (fun j hj => HALL.out j (by omega)))
        go_wp2
        go_ret
        exact ⟨ret_bool HE.out.symm, _, rfl⟩
  · have HN := Lib.hid (eqB_len hlen)
    have hd : ((xs.length : Int) != (ys.length : Int)) = true := by simp; omega
    clear hlen
    go_enter Try.func58, Try.ntmps58
    go_wp2
    go_ret
    exact ⟨ret_bool HN.out.symm, 0, rfl⟩

end


/-- Places told by the walk itself. -/
theorem off_all (ws : List Int) : ∀ (f p : Nat), p ≤ ws.length → ws.length ≤ p + f → badFrom ws p = none → ∀ q ∈ plFrom ws p, offO ws (plFrom ws p) p q = q
  | 0, p, h1, h2, _, q, hq => by rw [plFrom_end (by omega)] at hq; simp at hq
  | f + 1, p, h1, h2, hb, q, hq => by
    rcases Nat.lt_or_ge p ws.length with hl | hl
    · obtain ⟨g1, g2⟩ := badFrom_none hb hl
      have hn := nxt_gt ws p
      have hle := nxt_le g1
      rw [plFrom_ok hl g1] at hq ⊢
      unfold offO
      split
      · rename_i e; exact e
      · rename_i e
        rcases List.mem_cons.1 hq with e' | h'
        · exact absurd e'.symm e
        · rw [← nxt_sz]
          exact off_all ws f (nxt ws p) hle (by omega) g2 q h'
    · rw [plFrom_end hl] at hq; simp at hq
theorem toO_id {ws : List Int} (hok : OkH ws) {q : Nat} (hq : q ∈ places ws) : toO ws (places ws) q = q := by
  have := hok.two
  have hb : badFrom ws 2 = none := hok.bad
  exact off_all ws ws.length 2 this (by omega) hb q hq
theorem now_id {ws : List Int} (hok : OkH ws) {o : Int} (hf : fitsB ws o = true) : nowO (toO ws (places ws)) o = o := by
  by_cases hk : kd o = 3
  · obtain ⟨h0, h1, h2⟩ := (kd_three o).1 hk
    unfold nowO
    rw [if_pos hk, toO_id hok (fits_pl hf hk)]
    unfold pcl
    omega
  · exact if_neg hk
/-- A heap laid in the order of its places is itself. -/
theorem arr_id {ws : List Int} (hok : OkH ws) : arrW ws (places ws) = ws := by
  have hb : ∀ p ∈ places ws, badB ws p = false := fun p hp => (places_mem hp).2.2
  refine (PartW.fin (ord := places ws) (xs := ws) ⟨(endO_places hok).symm, rfl, rfl, ?_, ?_⟩ (places_nodup ws) hb).symm
  · intro p hp i hi hC
    rw [toO_id hok hp]
    refine (now_id hok ?_).symm
    rcases hC with rfl | ⟨h3, hf⟩
    · exact class_fits hok hp
    · have := slot_fits hok hp hf (k := i - 3) (by unfold szT at hi; omega)
      rwa [show p + 3 + (i - 3) = p + i from by omega] at this
  · intro p hp i hi _
    rw [toO_id hok hp]
theorem arrR_id {ws rs : List Int} (hok : OkH ws) (hf : ∀ o ∈ rs, fitsB ws o = true) : arrR ws rs (places ws) = rs := by
  unfold arrR
  exact (List.map_congr_left (g := id) (fun o ho => now_id hok (hf o ho))).trans (List.map_id _)



theorem i64_all {xs : List Int} (h : ∀ x ∈ xs, -9223372036854775808 ≤ x ∧ x ≤ 9223372036854775807) : I64 xs := fun j => by
  rcases Nat.lt_or_ge j xs.length with hl | hl
  · rw [nth_eq hl]; exact h _ (List.getElem_mem _)
  · rw [nth_out hl]; omega
theorem badRoot_all {ws rs : List Int} : ∀ (n i : Nat), (∀ j, j < n → fitsB ws (nth rs (i + j)) = true) → badRoot ws rs n i = none
  | 0, _, _ => rfl
  | n + 1, i, h => by
    unfold badRoot
    have h0 := h 0 (by omega)
    rw [Nat.add_zero] at h0
    rw [if_pos h0]
    exact badRoot_all n (i + 1) fun j hj => by
      have := h (j + 1) (by omega)
      rwa [show i + 1 + j = i + (j + 1) from by omega]
theorem roots_ok {ws rs : List Int} (hok : OkH ws) (hr : ∀ o ∈ rs, fitsB ws o = true) : rootsF ws rs = (0, 0) := by
  refine rootsF_ok (okB_iff.2 hok) ?_
  unfold brFrom
  exact badRoot_all _ _ fun j hj => hr _ (by rw [Nat.zero_add, nth_eq (by omega)]; exact List.getElem_mem _)

section
variable {ws rs : List Int} {ord : List Nat} (hw : I64 ws) (hok : OkH ws) (hr : ∀ o ∈ rs, fitsB ws o = true) (ho : OrdOf ws rs ord)
include hok hr ho
theorem arr_small : ∀ p, toO ws ord p ≤ 100000 := fun p => by
  by_cases hp : p ∈ ord
  · have := to_bd hok hr ho hp; omega
  · rw [to_out hp]; omega
theorem arr_now_bd {o : Int} (h : fitsB ws o = true) : -9223372036854775808 ≤ nowO (toO ws ord) o ∧ nowO (toO ws ord) o ≤ 9223372036854775807 := by
  have h1 := fits_bd h
  have h2 := arr_small hok hr ho (pcl o)
  unfold nowO
  split <;> omega
include hw
theorem arr_i64 : I64 (arrW ws ord) := by
  refine i64_all fun x hx => ?_
  unfold arrW laidO at hx
  rcases List.mem_append.1 hx with hx | hx
  · simp only [List.mem_cons, List.not_mem_nil, or_false] at hx
    rcases hx with rfl | rfl
    · exact hw 0
    · exact hw 1
  · obtain ⟨p, hp, hx⟩ := List.mem_flatMap.1 hx
    have hpl := ord_pl hok hr ho hp
    have hb := (places_mem hpl).2.2
    unfold thingO at hx
    simp only [List.mem_cons] at hx
    rcases hx with rfl | rfl | rfl | hx
    · exact arr_now_bd hok hr ho (class_fits hok hpl)
    · exact hw _
    · exact hw _
    · split at hx
      · obtain ⟨k, hk, rfl⟩ := (slotsL_mem hb).1 hx
        exact hw _
      · rename_i hf
        obtain ⟨y, hy, rfl⟩ := List.mem_map.1 hx
        obtain ⟨k, hk, rfl⟩ := (slotsL_mem hb).1 hy
        exact arr_now_bd hok hr ho (slot_fits hok hpl hf hk)
end
theorem arrR_i64 {ws rs : List Int} {ord : List Nat} (hok : OkH ws) (hr : ∀ o ∈ rs, fitsB ws o = true) (ho : OrdOf ws rs ord) : I64 (arrR ws rs ord) := by
  refine i64_all fun x hx => ?_
  obtain ⟨y, hy, rfl⟩ := List.mem_map.1 hx
  exact arr_now_bd hok hr ho (hr y hy)
theorem arrR_len (ws rs : List Int) (ord : List Nat) : (arrR ws rs ord).length = rs.length := by unfold arrR; simp

theorem vastk_any (ws rs fr : List Int) (A B C : Option Addr) (c d c' : Nat) (w : World) :
    Calls Try.prog 69 #[.agg #[.slice A ws.length c], .slice B rs.length d, .slice C fr.length c'] w fun e w' => e = .returned (.bool (decide (5000 < ws.length) || decide (5000 < rs.length) || decide (5000 < fr.length))) ∧ Below w.heap.size w w' := by
  by_cases h1 : 5000 < ws.length
  · go_enter Try.func69, Try.ntmps69
    go_wp2
    go_ret
    exact ⟨ret_bool (by simp), (Below.refl _ _).alloc (Nat.le_refl _) _⟩
  · by_cases h2 : 5000 < rs.length
    · go_enter Try.func69, Try.ntmps69
      go_wp2
      go_ret
      exact ⟨ret_bool (by simp), (Below.refl _ _).alloc (Nat.le_refl _) _⟩
    · go_enter Try.func69, Try.ntmps69
      go_wp2
      go_ret
      exact ⟨ret_bool (by rw [decide_eq_decide.2 (show (5000 : Int) < (ws.length : Int) ↔ 5000 < ws.length by omega), decide_eq_decide.2 (show (5000 : Int) < (rs.length : Int) ↔ 5000 < rs.length by omega), decide_eq_decide.2 (show (5000 : Int) < (fr.length : Int) ↔ 5000 < fr.length by omega)]), (Below.refl _ _).alloc (Nat.le_refl _) _⟩

/-- A row of the call's own, as a slice. -/
theorem own_ints' {w : World} {base n c : Nat} {A : Option Addr} {xs : List Int} (h : Own w base (.slice A n c) xs) : Ints w A xs ∧ n = xs.length ∧ n ≤ c := by
  obtain ⟨A', c', hv, hA, hc, hb⟩ := h.form2
  simp at hv
  obtain ⟨rfl, rfl, rfl⟩ := hv
  exact ⟨hA, rfl, hc⟩

theorem i64_fix (xs : List Int) (h : ∀ x ∈ xs, -9223372036854775808 ≤ x ∧ x ≤ 9223372036854775807) : I64 xs := fun j => by
  rcases Nat.lt_or_ge j xs.length with hl | hl
  · rw [nth_eq hl]; exact h _ (List.getElem_mem _)
  · rw [nth_out hl]; omega
/-- A call's three results, stored into boxes made before it. -/
theorem put_boxes {v w3 w4 : World} {K : Nat} {u a b V1 V2 : Value} {xs ys : List Int} (hv : Below v.heap.size v w3) (hK : v.heap.size ≤ K) (hk : Blk w3 K 33 #[u]) (hf : Blk w3 (K + 1) 36 #[a, b]) (hb : Below w3.heap.size w3 w4)
    (hoa : Own w4 w3.heap.size V1 xs) (hob : Own w4 w3.heap.size V2 ys) (p q : Int) :
    Below v.heap.size v (((w4.setCell ⟨K, 0, none⟩ V1).setCell ⟨K + 1, 0, none⟩ (.int .i64 p)).setCell ⟨K + 1, 1, none⟩ (.int .i64 q)) ∧
    Own (((w4.setCell ⟨K, 0, none⟩ V1).setCell ⟨K + 1, 0, none⟩ (.int .i64 p)).setCell ⟨K + 1, 1, none⟩ (.int .i64 q)) w3.heap.size V1 xs ∧
    Own (((w4.setCell ⟨K, 0, none⟩ V1).setCell ⟨K + 1, 0, none⟩ (.int .i64 p)).setCell ⟨K + 1, 1, none⟩ (.int .i64 q)) w3.heap.size V2 ys ∧
    Blk (((w4.setCell ⟨K, 0, none⟩ V1).setCell ⟨K + 1, 0, none⟩ (.int .i64 p)).setCell ⟨K + 1, 1, none⟩ (.int .i64 q)) K 33 #[V1] ∧
    Blk (((w4.setCell ⟨K, 0, none⟩ V1).setCell ⟨K + 1, 0, none⟩ (.int .i64 p)).setCell ⟨K + 1, 1, none⟩ (.int .i64 q)) (K + 1) 36 #[.int .i64 p, .int .i64 q] := by
  have hlt := hf.lt
  have hn : ∀ {V zs}, Own w4 w3.heap.size V zs → ∀ k, V.ownBlock = some k → w3.heap.size ≤ k := fun h k e => (h.lt _ e).1
  refine ⟨(((hv.trans (hb.mono hv.size)).setCell (by dsimp only; omega) _).setCell (by dsimp only; omega) _).setCell (by dsimp only; omega) _, ?_, ?_, ?_, ?_⟩
  · exact ((hoa.setCell _ (fun e => by have := hn hoa _ e; dsimp only at this; omega) _).setCell _ (fun e => by have := hn hoa _ e; dsimp only at this; omega) _).setCell _ (fun e => by have := hn hoa _ e; dsimp only at this; omega) _
  · exact ((hob.setCell _ (fun e => by have := hn hob _ e; dsimp only at this; omega) _).setCell _ (fun e => by have := hn hob _ e; dsimp only at this; omega) _).setCell _ (fun e => by have := hn hob _ e; dsimp only at this; omega) _
  · exact (((hk.below hb hk.lt).set_ 0 V1).far (by dsimp only; omega) _).far (by dsimp only; omega) _
  · exact (((hf.below hb hf.lt).far (by dsimp only; omega) V1).set_ 0 (.int .i64 p)).set_ 1 (.int .i64 q)

theorem fix_sweep : rootsF [0, 3, 0, 1, 0, 0, 2, 4, 0] [10] = (0, 0) ∧ chen [0, 3, 0, 1, 0, 0, 2, 4, 0] [10] 1 = [5] ∧ places [0, 3, 0, 1, 0, 0, 2, 4, 0] = [2, 5] ∧ arrW [0, 3, 0, 1, 0, 0, 2, 4, 0] [5] = [0, 3, 0, 2, 4, 0] ∧ arrR [0, 3, 0, 1, 0, 0, 2, 4, 0] [10] [5] = [4] := by decide +kernel
theorem fix_tells {f : Nat → Bool} (h : Tells [0, 3, 0, 1, 0, 0, 2, 4, 0] [10] f) : (places [0, 3, 0, 1, 0, 0, 2, 4, 0]).filter f = [5] := by
  have hk : (chen [0, 3, 0, 1, 0, 0, 2, 4, 0] [10] 1).length = 1 := by rw [fix_sweep.2.1]; rfl
  have ho := chen_ord hk
  rw [fix_sweep.2.1] at ho
  have h5 : f 5 = true := (h 5).2 ((ho.iff 5).1 (by simp))
  have h2 : f 2 = false := by
    cases e : f 2
    · rfl
    · have := (ho.iff 2).2 ((h 2).1 e)
      simp at this
  rw [fix_sweep.2.2.1]
  simp [h5, h2]
theorem sweep_twice {ws rs X Y : List Int} {f g : Nat → Bool} (hok : OkH ws) (hr : ∀ o ∈ rs, fitsB ws o = true) (hf : Tells ws rs f) (hX : X = arrW ws ((places ws).filter f)) (hY : Y = arrR ws rs ((places ws).filter f)) (hg : Tells X Y g) :
    arrW X ((places X).filter g) = X ∧ arrR X Y ((places X).filter g) = Y := by
  have hs := sweep_ord hok hr hf
  have ha := arr_ok hok hr hs
  have hb := arrR_fits hok hr hs
  have hall := fun q => arr_all hok hr hs (q := q)
  rw [← hX] at ha hb hall
  rw [← hY] at hb hall
  have he : (places X).filter g = places X := List.filter_eq_self.2 (fun p hp => (hg p).2 ((hall p).2 hp))
  rw [he]
  exact ⟨arr_id ha, arrR_id ha hb⟩
theorem fix_worldM (v : World) (n : Nat) (hn : v.heap.size = n) :
    Ints ((v.alloc (.cells #[.int .i64 0, .int .i64 3, .int .i64 0, .int .i64 1, .int .i64 0, .int .i64 0, .int .i64 2, .int .i64 4, .int .i64 0] 3)).alloc (.cells #[.int .i64 10] 3)) (some ⟨n, 0, none⟩) [0, 3, 0, 1, 0, 0, 2, 4, 0] ∧ Ints ((v.alloc (.cells #[.int .i64 0, .int .i64 3, .int .i64 0, .int .i64 1, .int .i64 0, .int .i64 0, .int .i64 2, .int .i64 4, .int .i64 0] 3)).alloc (.cells #[.int .i64 10] 3)) (some ⟨n + 1, 0, none⟩) [10] ∧ Below n v ((v.alloc (.cells #[.int .i64 0, .int .i64 3, .int .i64 0, .int .i64 1, .int .i64 0, .int .i64 0, .int .i64 2, .int .i64 4, .int .i64 0] 3)).alloc (.cells #[.int .i64 10] 3)) := by
  subst hn
  refine ⟨(ints_new v [0, 3, 0, 1, 0, 0, 2, 4, 0]).alloc _, ?_, ((Below.refl _ _).alloc (Nat.le_refl _) _).alloc (by simp) _⟩
  have h := ints_new (v.alloc (.cells #[.int .i64 0, .int .i64 3, .int .i64 0, .int .i64 1, .int .i64 0, .int .i64 0, .int .i64 2, .int .i64 4, .int .i64 0] 3)) [10]
  simp only [World.size_alloc] at h
  exact h

set_option maxRecDepth 100000 in
set_option maxHeartbeats 1600000 in
theorem sweepTwice_walk (ws : List Int) (A : Option Addr) (c : Nat) (rs : List Int) (B : Option Addr) (d : Nat) (w : World)
    (hA : Ints w A ws) (hcap : ws.length ≤ c) (hw : I64 ws) (hl : ws.length ≤ 9223372036854775807) (hB : Ints w B rs) (hcapB : rs.length ≤ d) (hr : I64 rs) (hrl : rs.length ≤ 9223372036854775807) :
    Calls Try.prog 24 #[.agg #[.slice A ws.length c], .slice B rs.length d] w fun e w' => e = .returned (.bool true) ∧ Below w.heap.size w w' := by
  have hx0 : Below w.heap.size w (w.alloc (.cells #[.slice A ws.length c] 33)) := (Below.refl _ _).alloc (Nat.le_refl _) _
  have HX0 := Lib.hid hx0
  have HA := Lib.hid (hA.below hx0); have HB := Lib.hid (hB.below hx0)
  have HW := Lib.hid hw; have HRI := Lib.hid hr
  have HH := Lib.hid (Blk.new w 33 #[.slice A ws.length c])
  clear hx0 hA hB hw hr
  go_enter Try.func24, Try.ntmps24
  go_wp2_with fail
  obtain ⟨i1, i2, hx1⟩ := fix_worldM (w.alloc (.cells #[.slice A ws.length c] 33)) (w.heap.size + 1) (by simp)
  generalize (((w.alloc (.cells #[.slice A ws.length c] 33)).alloc (.cells #[.int .i64 0, .int .i64 3, .int .i64 0, .int .i64 1, .int .i64 0, .int .i64 0, .int .i64 2, .int .i64 4, .int .i64 0] 3)).alloc (.cells #[.int .i64 10] 3)) = w5 at *
  refine (collect_any [0, 3, 0, 1, 0, 0, 2, 4, 0] [10] (some ⟨w.heap.size + 1, 0, none⟩) (some ⟨w.heap.size + 1 + 1, 0, none⟩) 9 1 w5 i1 (by simp) (i64_fix _ (by decide)) (by simp) i2 (i64_fix _ (by decide)) (by simp)).mono ?_
  rintro e w6 ⟨X, Y, ⟨hb6, A6, c6, B6, d6, rfl, hoa, hob⟩, hXY⟩
  have hxy : X = [0, 3, 0, 2, 4, 0] ∧ Y = [4] := by
    obtain ⟨-, f, hf, hX, hY⟩ := hXY.resolve_left (fun h => h.1 (by rw [fix_sweep.1]))
    rw [hX, hY, fix_tells hf]
    exact ⟨fix_sweep.2.2.2.1, fix_sweep.2.2.2.2⟩
  obtain ⟨rfl, rfl⟩ := hxy
  rw [fix_sweep.1] at *
  clear hXY
  obtain ⟨ib6, -, -⟩ := own_ints' hob
  obtain ⟨bb, ob, rfl, hbb, rb⟩ := ib6 (by simp)
  have cb0 := rb 0 (by simp)
  have HX1 := Lib.hid (HX0.out.trans (hx1.mono (by simp)))
  have HX6 := Lib.hid (HX1.out.trans (hb6.mono HX1.out.size))
  have hx16 := hx1.trans (hb6.mono (by have := hx1.size; simpa using this))
  have HA6 := Lib.hid (HA.out.below (hx16.mono (by simp))); have HB6 := Lib.hid (HB.out.below (hx16.mono (by simp)))
  have HH6 := Lib.hid (HH.out.below hx16 (by simp))
  clear hx16 hx1 hb6 hoa hob i1 i2 rb
  obtain ⟨x1, x2, x3⟩ := HH6.out.f1
  simp [nth] at cb0
  dsimp only [List.length_cons, List.length_nil, Nat.reduceAdd]
  have hx7 : Below w6.heap.size w6 ((w6.alloc (.cells #[.slice A6 6 c6] 33)).alloc (.cells #[.int .i64 0, .int .i64 0] 36)) := ((Below.refl _ _).alloc (Nat.le_refl _) _).alloc (by simp) _
  have hk7 : Blk ((w6.alloc (.cells #[.slice A6 6 c6] 33)).alloc (.cells #[.int .i64 0, .int .i64 0] 36)) w6.heap.size 33 #[.slice A6 6 c6] := (Blk.new _ _ _).alloc _
  have hf7 : Blk ((w6.alloc (.cells #[.slice A6 6 c6] 33)).alloc (.cells #[.int .i64 0, .int .i64 0] 36)) (w6.heap.size + 1) 36 #[.int .i64 0, .int .i64 0] := by
    have := Blk.new (w6.alloc (.cells #[.slice A6 6 c6] 33)) 36 #[.int .i64 0, .int .i64 0]
    simpa using this
  have HX8 := Lib.hid (HX6.out.trans (hx7.mono HX6.out.size))
  have HA8 := Lib.hid (HA6.out.below hx7); have HB8 := Lib.hid (HB6.out.below hx7)
  have HH8 := Lib.hid (HH6.out.below hx7 HH6.out.lt)
  have HX68 := Lib.hid hx7; have HK8 := Lib.hid hk7; have HF8 := Lib.hid hf7
  clear hx7 hk7 hf7
  unfold fltV
  go_wp2_with fail
  generalize ((w6.alloc (.cells #[.slice A6 6 c6] 33)).alloc (.cells #[.int .i64 0, .int .i64 0] 36)) = w8 at *
  clear x1 x2 x3 cb0
  refine (vastk_any ws rs [] A B none c d 0 w8).mono ?_
  rintro e w9 ⟨rfl, hb9⟩
  have HX9 := Lib.hid (HX8.out.trans (hb9.mono HX8.out.size))
  have HA9 := Lib.hid (HA8.out.below hb9); have HB9 := Lib.hid (HB8.out.below hb9)
  have HH9 := Lib.hid (HH8.out.below hb9 HH8.out.lt); have HK9 := Lib.hid (HK8.out.below hb9 HK8.out.lt); have HF9 := Lib.hid (HF8.out.below hb9 HF8.out.lt)
  have HX69 := Lib.hid (HX68.out.trans (hb9.mono HX68.out.size))
  clear hb9
  by_cases hbig : 5000 < ws.length ∨ 5000 < rs.length
  · have hvv : (decide (5000 < ws.length) || decide (5000 < rs.length) || decide (5000 < ([] : List Int).length)) = true := by
      simp only [Bool.or_eq_true, decide_eq_true_eq]; omega
    rw [hvv]
    clear hbig hvv
    go_wp2_with fail
    go_ret
    exact ⟨rfl, HX9.out⟩
  have s1 : ws.length ≤ 5000 := by omega
  have s2 : rs.length ≤ 5000 := by omega
  have hvv : (decide (5000 < ws.length) || decide (5000 < rs.length) || decide (5000 < ([] : List Int).length)) = false := by
    simp only [Bool.or_eq_false_iff, decide_eq_false_iff_not, List.length_nil]; omega
  rw [hvv]
  clear hvv hbig
  obtain ⟨x1, x2, x3⟩ := HH9.out.f1
  go_wp2_with fail
  refine (collect_any ws rs A B c d w9 HA9.out hcap HW.out hl HB9.out HRI.out (by omega)).mono ?_
  rintro e w10 ⟨X, Y, ⟨hb10, A10, c10, B10, d10, rfl, hoa, hob⟩, hXY⟩
  have HXY := Lib.hid hXY
  generalize hf : rootsF ws rs = f at *
  have HFF := Lib.hid hf
  clear hXY hf
  obtain ⟨p1, p2, p3, p4, p5⟩ := put_boxes (v := w6) (K := w6.heap.size) HX69.out (Nat.le_refl _) HK9.out HF9.out hb10 hoa hob f.1 f.2
  have HH10 := Lib.hid (HH9.out.below hb10 HH9.out.lt); have HK10 := Lib.hid (HK9.out.below hb10 HK9.out.lt); have HF10 := Lib.hid (HF9.out.below hb10 HF9.out.lt)
  obtain ⟨y1, y2, y3⟩ := HK10.out.f1
  obtain ⟨z1, z2, z3, z4, z5⟩ := HF10.out.f2
  have HX11 := Lib.hid (HX6.out.trans (p1.mono HX6.out.size))
  have HA11 := Lib.hid (HA6.out.below p1); have HB11 := Lib.hid (HB6.out.below p1)
  have HH11 := Lib.hid (HH6.out.below p1 HH6.out.lt)
  have HIA11 := Lib.hid (own_ints' p2).1; have HIB11 := Lib.hid (own_ints' p3).1
  have hka := (own_ints' p2).2.2
  dsimp only at hka
  have HK11 := Lib.hid p4; have HF11 := Lib.hid p5
  clear p1 p2 p3 p4 p5 hb10 hoa hob x1 x2 x3
  unfold fltV
  obtain ⟨x1, x2, x3⟩ := HK11.out.f1
  cases hc : (f.1 == 0)
  · have hne : f.1 ≠ 0 := by simpa using hc
    have hc2 : (f.1 != 0) = true := by simpa using hne
    obtain ⟨-, rfl, rfl⟩ := HXY.out.resolve_right (fun h => hne h.1)
    clear hne
    go_wp2_with fail
    go_ret
    exact ⟨rfl, HX11.out⟩
  · have h0 : f.1 = 0 := by simpa using hc
    obtain ⟨hok, -, -, hfit, hz⟩ := rootsF_zero (ws := ws) (rs := rs) (by rw [HFF.out]; exact h0)
    obtain ⟨-, ff, hff, hX, hY⟩ := HXY.out.resolve_left (fun h => h.1 h0)
    have hz0 : f = (0, 0) := HFF.out.symm.trans hz
    subst hz0
    have hs1 := sweep_ord hok hfit hff
    have hroots : rootsF X Y = (0, 0) := by rw [hX, hY]; exact roots_ok (arr_ok hok hfit hs1) (arrR_fits hok hfit hs1)
    have hix : I64 X := by rw [hX]; exact arr_i64 HW.out hok hfit hs1
    have hiy : I64 Y := by rw [hY]; exact arrR_i64 hok hfit hs1
    have hxl : X.length ≤ 2000 := by rw [hX]; exact Nat.le_trans (arr_len_le hok hfit hs1) hok.most
    have hyl : Y.length = rs.length := by rw [hY]; exact arrR_len ws rs _
    have htw : ∀ g, Tells X Y g → arrW X ((places X).filter g) = X ∧ arrR X Y ((places X).filter g) = Y := fun g h => sweep_twice hok hfit hff hX hY h
    have hlike : ∀ f g, Tells ws rs f → Tells X Y g → alikeR ws rs f X Y g = true := fun f g hf hg => by
      rw [hX, hY] at hg ⊢
      exact arr_alike hok hfit hs1 (f := f) (g := g) hf hg
    have HROOTS := Lib.hid hroots; have HIX := Lib.hid hix; have HIY := Lib.hid hiy; have HTW := Lib.hid htw; have HYL := Lib.hid hyl; have HLIKE := Lib.hid hlike
    clear h0 hok hfit hz hff hX hY hs1 hroots hix hiy htw hyl hlike hc HXY
    dsimp only at *
    go_wp2_with fail
    generalize (((w10.setCell ⟨w6.heap.size, 0, none⟩ (.slice A10 X.length c10)).setCell ⟨w6.heap.size + 1, 0, none⟩ (.int .i64 0)).setCell ⟨w6.heap.size + 1, 1, none⟩ (.int .i64 0)) = w11 at *
    clear x1 x2 x3 y1 y2 y3 z1 z2 z3 z4 z5
    refine (collect_any X Y A10 B10 c10 d10 w11 HIA11.out hka HIX.out (by omega) HIB11.out HIY.out (by have := HYL.out; omega)).mono ?_
    rintro e w12 ⟨X2, Y2, ⟨hb12, A12, c12, B12, d12, rfl, hoa, hob⟩, hXY2⟩
    have hx2 : X2 = X ∧ Y2 = Y := by
      obtain ⟨-, g, hg, hX2, hY2⟩ := hXY2.resolve_left (fun h => h.1 (by rw [HROOTS.out]))
      exact ⟨hX2.trans (HTW.out g hg).1, hY2.trans (HTW.out g hg).2⟩
    obtain ⟨rfl, rfl⟩ := hx2
    rw [HROOTS.out]
    clear hXY2
    have HX12 := Lib.hid (HX11.out.trans (hb12.mono HX11.out.size))
    have HK12 := Lib.hid (HK11.out.below hb12 HK11.out.lt); have HF12 := Lib.hid (HF11.out.below hb12 HF11.out.lt)
    have HIA12 := Lib.hid (HIA11.out.below hb12); have HIB12 := Lib.hid (HIB11.out.below hb12)
    have HA12 := Lib.hid (HA11.out.below hb12); have HB12 := Lib.hid (HB11.out.below hb12); have HH12 := Lib.hid (HH11.out.below hb12 HH11.out.lt)
    have HI1 := Lib.hid (own_ints' hoa).1; have HI2 := Lib.hid (own_ints' hob).1
    clear hb12 hoa hob HX11 HK11 HF11 HIA11 HIB11 HA11 HB11 HH11 HTW HH10 HK10 HF10
    dsimp only at HI1 HI2
    have hx13 : Below w12.heap.size w12 (w12.alloc (.cells #[.slice A12 X2.length c12] 33)) := (Below.refl _ _).alloc (Nat.le_refl _) _
    have HX13 := Lib.hid (HX12.out.trans (hx13.mono HX12.out.size))
    have HI13 := Lib.hid (HI1.out.below hx13); have HI23 := Lib.hid (HI2.out.below hx13); have HIA13 := Lib.hid (HIA12.out.below hx13); have HIB13 := Lib.hid (HIB12.out.below hx13)
    have HA13 := Lib.hid (HA12.out.below hx13); have HB13 := Lib.hid (HB12.out.below hx13)
    have HH13 := Lib.hid (HH12.out.below hx13 HH12.out.lt); have HK13 := Lib.hid (HK12.out.below hx13 HK12.out.lt); have HF13 := Lib.hid (HF12.out.below hx13 HF12.out.lt)
    have e1 : w12.setCell ⟨w6.heap.size + 1, 0, none⟩ (.int .i64 0) = w12 := setCell_same HF12.out rfl
    have e2 : w12.setCell ⟨w6.heap.size + 1, 1, none⟩ (.int .i64 0) = w12 := setCell_same HF12.out rfl
    obtain ⟨x1, x2, x3⟩ := HK12.out.f1
    obtain ⟨z1, z2, z3, z4, z5⟩ := HF12.out.f2
    clear hx13
    unfold fltV
    dsimp only
    go_wp2_with fail
    clear e1 e2 x1 x2 x3 z1 z2 z3 z4 z5
    generalize (w12.alloc (.cells #[.slice A12 X2.length c12] 33)) = w13 at *
    refine (kints_any X2 X2 A12 A10 c12 c10 w13 HI13.out HIA13.out (by omega)).mono ?_
    rintro e w14 ⟨rfl, m1, rfl⟩
    rw [eqB_self]
    go_wp2_with fail
    refine (kints_any Y2 Y2 B12 B10 d12 d10 _ (HI23.out.drewN m1) (HIB13.out.drewN m1) (by have := HYL.out; omega)).mono ?_
    rintro e w15 ⟨rfl, m2, rfl⟩
    rw [eqB_self]
    rw [World.drewN_drewN]
    have HX15 := Lib.hid (HX13.out.trans (belowN w.heap.size w13 (m1 + m2)))
    have HIA15 := Lib.hid (HIA13.out.drewN (m1 + m2)); have HIB15 := Lib.hid (HIB13.out.drewN (m1 + m2)); have HA15 := Lib.hid (HA13.out.drewN (m1 + m2)); have HB15 := Lib.hid (HB13.out.drewN (m1 + m2))
    have HH15 := Lib.hid (HH13.out.drewN (m1 + m2)); have HK15 := Lib.hid (HK13.out.drewN (m1 + m2)); have HF15 := Lib.hid (HF13.out.drewN (m1 + m2))
    clear HX13 HI13 HI23 HIA13 HIB13 HA13 HB13 HH13 HK13 HF13 HX12 HK12 HF12 HIA12 HIB12 HA12 HB12 HH12 HI1 HI2
    generalize w13.drewN (m1 + m2) = w15 at *
    obtain ⟨x1, x2, x3⟩ := HH15.out.f1
    obtain ⟨y1, y2, y3⟩ := HK15.out.f1
    go_wp2_with fail
    refine (alike2_any ws rs X2 Y2 A B A10 B10 c d c10 d10 w15 HA15.out hcap HW.out hl HB15.out HRI.out (by omega) HIA15.out hka HIX.out (by omega) HIB15.out HIY.out (by have := HYL.out; omega)).mono ?_
    rintro e w16 ⟨hb16, hcase⟩
    have he : e = .returned (.tuple #[.bool true, fltV 0 0]) := by
      rcases hcase with ⟨h, -⟩ | ⟨-, h, -⟩ | ⟨-, -, f, g, hf, hg, rfl⟩
      · exact absurd (by rw [HFF.out]) h
      · exact absurd (by rw [HROOTS.out]) h
      · rw [HLIKE.out f g hf hg]
    subst he
    have hx17 : Below w16.heap.size w16 (w16.alloc (.cells #[.int .i64 0, .int .i64 0] 36)) := (Below.refl _ _).alloc (Nat.le_refl _) _
    have hX16 := HX15.out.trans (hb16.mono HX15.out.size)
    have HX17 := Lib.hid (hX16.trans (hx17.mono hX16.size))
    obtain ⟨z1, z2, z3, z4, z5⟩ := (HF15.out.below hb16 HF15.out.lt).f2
    clear hcase hx17 hX16 hb16 x1 x2 x3 y1 y2 y3
    unfold fltV
    go_wp2_with fail
    go_ret
    exact ⟨rfl, HX17.out⟩
end Go.Proofs.Ytjpppdacamhhfaa
