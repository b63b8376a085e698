/- Plain laws of tables: a text that is made known is found. No program in sight. Conditions: a heap that may be. -/
import Derived.Test.YtjpppdacamhhfaaNmD
import Derived.Test.YtjpppdacamhhfaaHSpec4
namespace Go.Proofs.Ytjpppdacamhhfaa
set_option linter.unusedVariables false

/-- The first bytes of a text laid into the slots of a thing. -/
def layB (g : List Int) (p : Nat) (tx : ByteArray) : Nat → List Int
  | 0 => g
  | j + 1 => (layB g p tx j).set (p + 3 + j) (bat tx j : Int)
theorem layB_succ (g : List Int) (p : Nat) (tx : ByteArray) (j : Nat) : layB g p tx (j + 1) = (layB g p tx j).set (p + 3 + j) (bat tx j : Int) := rfl
theorem layB_len (g : List Int) (p : Nat) (tx : ByteArray) : ∀ n, (layB g p tx n).length = g.length
  | 0 => rfl
  | n + 1 => by rw [layB_succ, List.length_set]; exact layB_len g p tx n
theorem layB_nth {g : List Int} {p : Nat} {tx : ByteArray} : ∀ {n : Nat} (_ : p + 3 + n ≤ g.length) (j : Nat), nth (layB g p tx n) j = if p + 3 ≤ j ∧ j < p + 3 + n then (bat tx (j - (p + 3)) : Int) else nth g j
  | 0, _, j => by rw [if_neg (by omega)]; rfl
  | n + 1, h, j => by
    rw [layB_succ, nth_set_, layB_len]
    by_cases e : p + 3 + n = j
    · rw [if_pos ⟨e, by omega⟩, if_pos (by omega), show j - (p + 3) = n by omega]
    · rw [if_neg (fun h => e h.1), layB_nth (by omega) j]
      by_cases h2 : p + 3 ≤ j ∧ j < p + 3 + n
      · rw [if_pos h2, if_pos (by omega)]
      · rw [if_neg h2, if_neg (by omega)]
/-- A table's heap with a text made known. -/
def intW (ws : List Int) (o : Int) (tx : ByteArray) : List Int := (layB (newW ws 0 1 tx.size) ws.length tx tx.size).set (pcl o + 3 + (seatF ws tx (pcl o)).toNat) (2 * ws.length)
def intT (ws : List Int) (o : Int) (tx : ByteArray) : List Int × Int × Int :=
  if seatF ws tx (pcl o) < 0 then ([], 0, 6) else if nth (slotsL ws (pcl o)) (seatF ws tx (pcl o)).toNat ≠ 0 then (ws, nth (slotsL ws (pcl o)) (seatF ws tx (pcl o)).toNat, 0)
  else if newE ws 0 1 tx.size = 0 then (intW ws o tx, 2 * ws.length, 0) else ([], 0, newE ws 0 1 tx.size)
def intF (ws : List Int) (o : Int) (tx : ByteArray) : List Int × Int × Int := if askE ws o tx = 0 then intT ws o tx else ([], 0, askE ws o tx)
/-- All texts; making a table. -/
def seeE (ws : List Int) (o : Int) : Int := if (checkF ws).1 ≠ 0 then 7 else if tabB ws o = false then 3 else 0
def allT (ws : List Int) (o : Int) : List ByteArray := ((slotsL ws (pcl o)).filter fun s => s != 0).map (txtS ws)
def tabF (ws : List Int) (sz : Int) : List Int × Int × Int := if okB ws = false then ([], 0, 7) else if sz < 1 ∨ 60 < sz then ([], 0, 4) else newR ws 0 0 sz

theorem putE_of {ws : List Int} {x at_ what : Int} (h : isTh ws x = true) (h0 : 0 ≤ at_) (h1 : at_ < (slotsN ws (x / 2).toNat : Int)) (h2 : standsB ws (formOf ws (x / 2).toNat) what = true) : putE ws x at_ what = 0 := by
  unfold putE
  rw [if_neg (by rw [h]; decide), if_neg (by omega), if_neg (by rw [h2]; decide)]
theorem same_head {ws ms : List Int} {p : Nat} (h : nth ms (p + 2) = nth ws (p + 2)) : slotsN ms p = slotsN ws p ∧ formOf ms p = formOf ws p := by
  unfold slotsN formOf; rw [h]; exact ⟨rfl, rfl⟩
theorem ok_len {ws : List Int} (hok : OkH ws) : ws.length ≤ 2000 := hok.most

/-- The bytes are put one behind the other. -/
theorem layB_ok {g : List Int} {p : Nat} {tx : ByteArray} (hok : OkH g) (hp : p ∈ places g) (hf : formOf g p = 1) (hs : slotsN g p = tx.size) : ∀ n, n ≤ tx.size →
    OkH (layB g p tx n) ∧ places (layB g p tx n) = places g ∧ (∀ r ∈ places g, ∀ i, i < 3 → nth (layB g p tx n) (r + i) = nth g (r + i)) ∧ (n < tx.size → putE (layB g p tx n) (2 * (p : Int)) n (bat tx n) = 0)
  | 0, _ => ⟨hok, rfl, fun _ _ _ _ => rfl, fun h => putE_of (isTh_of hp hok.most) (by omega) (by rw [show ((2 * (p : Int)) / 2).toNat = p by omega]; show _ < ((slotsN g p : Nat) : Int); omega) (by
      rw [show ((2 * (p : Int)) / 2).toNat = p by omega]; show standsB g (formOf g p) _ = true
      unfold standsB; rw [if_pos hf]; have := bat_le tx 0; simp; omega)⟩
  | n + 1, hn => by
    obtain ⟨h1, h2, h3, h4⟩ := layB_ok hok hp hf hs n (by omega)
    have h4 := h4 (by omega)
    obtain ⟨h5, h6⟩ := put_ok h1 h4
    have e : putW (layB g p tx n) (2 * (p : Int)) n (bat tx n) = layB g p tx (n + 1) := by
      unfold putW
      rw [show ((2 * (p : Int)) / 2).toNat = p by omega, Int.toNat_natCast]; rfl
    rw [e] at h5 h6
    have h7 : ∀ r ∈ places g, ∀ i, i < 3 → nth (layB g p tx (n + 1)) (r + i) = nth g (r + i) := fun r hr i hi => by
      rw [layB_succ, nth_set_ne (slot_ne hp hr (by omega) hi), h3 r hr i hi]
    have hd := same_head (h7 p hp 2 (by omega))
    refine ⟨h5, by rw [h6, h2], h7, fun hlt => putE_of ?_ (by omega) ?_ ?_⟩
    · rw [isTh_congr (ws := g) (by rw [h6, h2])]; exact isTh_of hp hok.most
    · rw [show ((2 * (p : Int)) / 2).toNat = p by omega, hd.1]; omega
    · rw [show ((2 * (p : Int)) / 2).toNat = p by omega, hd.2]
      unfold standsB; rw [if_pos hf]; have := bat_le tx (n + 1); simp; omega

/-- What a heap is behind a text made known. -/
structure Made (ws ms : List Int) (o : Int) (q : Nat) (x : Int) (tx : ByteArray) : Prop where
  ok : OkH ms
  i64 : I64 ws → I64 ms
  tab : tabB ms o = true
  num : slotsN ms (pcl o) = slotsN ws (pcl o)
  slots : slotsL ms (pcl o) = (slotsL ws (pcl o)).set q x
  old : ∀ s, isTh ws s = true → formOf ws (pcl s) = 1 → isTh ms s = true ∧ formOf ms (pcl s) = 1 ∧ txtS ms s = txtS ws s
  fresh : isTh ws x = false
  made : isTh ms x = true ∧ formOf ms (pcl x) = 1 ∧ txtS ms x = tx

theorem list_nth {l m : List Int} (hl : l.length = m.length) (h : ∀ j, j < l.length → nth l j = nth m j) : l = m := list_extN hl h
theorem th_pcl {ws : List Int} {s : Int} (h : isTh ws s = true) : pcl s ∈ places ws ∧ s = 2 * (pcl s : Int) ∧ 4 ≤ s ∧ s ≤ 3998 := isTh_mem h
theorem bat_list (tx : ByteArray) : tx.data.toList.map (fun x => (x.toNat : Int)) = (List.range tx.size).map (fun j => (bat tx j : Int)) := by
  apply List.ext_getElem
  · simp only [ByteArray.size, List.length_map, Array.length_toList, List.length_range]
  · intro j h1 h2
    have hj : j < tx.data.size := by simpa using h1
    simp only [List.getElem_map, Array.getElem_toList, List.getElem_range, bat]
    rw [Array.getElem?_eq_getElem hj]; rfl
theorem strOf_bytes (t : ByteArray) : strOfNums (t.data.toList.map fun x => (x.toNat : Int)) = t := by
  apply ByteArray.ext
  apply Array.ext'
  rw [strOfNums_data, List.map_map]
  conv => rhs; rw [← List.map_id t.data.toList]
  apply List.map_congr_left
  intro a _
  simp

theorem made_of {ws : List Int} {o : Int} {tx : ByteArray} {q : Nat} (hok : OkH ws) (ht : tabB ws o = true) (hz : tx.size ≤ 60) (he : newE ws 0 1 tx.size = 0) (hq : q < slotsN ws (pcl o)) :
    Made ws ((layB (newW ws 0 1 tx.size) ws.length tx tx.size).set (pcl o + 3 + q) (2 * ws.length)) o q (2 * ws.length) tx ∧
      (∀ n, n ≤ tx.size → OkH (layB (newW ws 0 1 tx.size) ws.length tx n) ∧ (n < tx.size → putE (layB (newW ws 0 1 tx.size) ws.length tx n) (2 * (ws.length : Int)) n (bat tx n) = 0)) ∧
      putE (layB (newW ws 0 1 tx.size) ws.length tx tx.size) o q (2 * ws.length) = 0 := by
  obtain ⟨hth, hfm, hsl⟩ := tab_parts ht
  obtain ⟨hm, ho, ho4, ho5⟩ := th_pcl hth
  have hq1 := hok.most
  have hq0 := hok.two
  obtain ⟨-, -, -, -, -, hlen, -⟩ := newE_zero he
  obtain ⟨hb1, hn1, hs1, hf1⟩ := new_head (cl := 0) (fm := 1) (k := tx.size) hok (by omega) (by omega) hz
  obtain ⟨hpl, hbd⟩ := new_places (cl := 0) (fm := 1) (k := tx.size) hok (by omega) (by omega) hz
  have hokG : OkH (newW ws 0 1 tx.size) := new_ok hok he
  have hlG : (newW ws 0 1 tx.size).length = ws.length + 3 + tx.size := newW_len_ ..
  have hlt : ∀ {j}, j < ws.length → j ≠ 1 → nth (newW ws 0 1 tx.size) j = nth ws j := fun hj h1 => newW_nth_lt hok.two hj h1
  generalize newW ws 0 1 tx.size = G at *
  have hpG : ws.length ∈ places G := by rw [hpl]; simp
  have hsub : ∀ r ∈ places ws, r ∈ places G := fun r hr => by rw [hpl]; exact List.mem_append_left _ hr
  have hL := fun n hn => layB_ok (n := n) hokG hpG hf1 hs1 hn
  obtain ⟨hokL, hplL, hhdL, -⟩ := hL tx.size (Nat.le_refl _)
  have hoG := hsub _ hm
  have hmw := places_mem hm
  have hnbw := not_bad hmw.2.2
  have hhd := same_head (hhdL _ hoG 2 (by omega))
  have hhw := same_head (hlt (j := pcl o + 2) (by omega) (by omega))
  have hdv : (o / 2).toNat = pcl o := rfl
  have hPE : putE (layB G ws.length tx tx.size) o q (2 * ws.length) = 0 := by
    refine putE_of ?_ (by omega) ?_ ?_
    · rw [isTh_congr hplL]; exact isTh_mono hsub hth
    · rw [hdv, hhd.1, hhw.1]; omega
    · rw [hdv, hhd.2, hhw.2]
      unfold standsB
      rw [if_neg (by omega), fitsB_congr hplL]
      unfold fitsB
      rw [isTh_of hpG hokG.most]; simp
  obtain ⟨hokM, hplM⟩ := put_ok hokL hPE
  have eW : putW (layB G ws.length tx tx.size) o q (2 * ws.length) = (layB G ws.length tx tx.size).set (pcl o + 3 + q) (2 * ws.length) := by
    unfold putW; rw [hdv, Int.toNat_natCast]
  rw [eW] at hokM hplM
  have hplM : places ((layB G ws.length tx tx.size).set (pcl o + 3 + q) (2 * ws.length)) = places G := by rw [hplM, hplL]
  have hwo : pcl o + 3 + q < ws.length := by unfold slotsN at hq; omega
  have hM : ∀ j, nth ((layB G ws.length tx tx.size).set (pcl o + 3 + q) (2 * ws.length)) j = if pcl o + 3 + q = j then 2 * (ws.length : Int) else if ws.length + 3 ≤ j ∧ j < ws.length + 3 + tx.size then (bat tx (j - (ws.length + 3)) : Int) else nth G j := fun j => by
    rw [nth_set_, layB_len, hlG]
    by_cases e : pcl o + 3 + q = j
    · rw [if_pos ⟨e, by omega⟩, if_pos e]
    · rw [if_neg (fun h => e h.1), if_neg e, layB_nth (by omega)]
  generalize hMM : (layB G ws.length tx tx.size).set (pcl o + 3 + q) (2 * ws.length) = M at *
  have hmem : ∀ {r}, r ∈ places ws → r ∈ places M := fun hr => by rw [hplM]; exact hsub _ hr
  have hpM : ws.length ∈ places M := by rw [hplM]; exact hpG
  have hhead : ∀ r ∈ places ws, slotsN M r = slotsN ws r ∧ formOf M r = formOf ws r := fun r hr => by
    have h1 := places_mem hr
    have h2 := not_bad h1.2.2
    refine same_head ?_
    rw [hM, if_neg (slot_ne hm hr hq (by omega)), if_neg (by omega), hlt (by omega) (by omega)]
  have hnw : slotsN M ws.length = tx.size ∧ formOf M ws.length = 1 := by
    have := same_head (ms := M) (ws := G) (p := ws.length) (by rw [hM, if_neg (by omega), if_neg (by omega)])
    rw [this.1, this.2]; exact ⟨hs1, hf1⟩
  have hslot : ∀ r ∈ places ws, slotsL M r = if r = pcl o then (slotsL ws r).set q (2 * (ws.length : Int)) else slotsL ws r := fun r hr => by
    have h1 := places_mem hr
    have h2 := not_bad h1.2.2
    have hbM := (places_mem (hmem hr)).2.2
    have hhr := hhead r hr
    refine list_nth ?_ ?_
    · rw [slotsL_len hbM, hhr.1]; split <;> simp [slotsL_len h1.2.2]
    · intro j hj
      rw [slotsL_len hbM, hhr.1] at hj
      rw [slotsL_nth hbM (by rw [hhr.1]; exact hj), hM]
      have hj3 : r + 3 + j < ws.length := by unfold slotsN at hj; omega
      by_cases e : pcl o + 3 + q = r + 3 + j
      · obtain ⟨e1, e2⟩ := slot_inj hm hr hq hj e
        rw [if_pos e, if_pos e1.symm, nth_set_, if_pos ⟨e2, by rw [slotsL_len h1.2.2]; omega⟩]
      · rw [if_neg e, if_neg (by omega), hlt hj3 (by omega)]
        split
        · rename_i e1
          subst e1
          rw [nth_set_ne (by intro e2; exact e (by omega)), slotsL_nth h1.2.2 hj]
        · rw [slotsL_nth h1.2.2 hj]
  have hold : ∀ s, isTh ws s = true → formOf ws (pcl s) = 1 → isTh M s = true ∧ formOf M (pcl s) = 1 ∧ txtS M s = txtS ws s := fun s hs hf => by
    obtain ⟨h1, h2, h3, h4⟩ := th_pcl hs
    refine ⟨isTh_mono (fun r hr => hmem hr) hs, by rw [(hhead _ h1).2, hf], ?_⟩
    unfold txtS
    rw [hslot _ h1, if_neg (fun e => by rw [e, hfm] at hf; exact absurd hf (by decide))]
  have hthM : isTh M (2 * (ws.length : Int)) = true := isTh_of hpM hokM.most
  have hpx : pcl (2 * (ws.length : Int)) = ws.length := by unfold pcl; omega
  have hslx : slotsL M (pcl o) = (slotsL ws (pcl o)).set q (2 * (ws.length : Int)) := by rw [hslot _ hm, if_pos rfl]
  have hbMx := (places_mem hpM).2.2
  refine ⟨⟨hokM, fun hw j => ?_, ?_, (hhead _ hm).1, hslx, hold, ?_, hthM, by rw [hpx]; exact hnw.2, ?_⟩, fun n hn => ⟨(hL n hn).1, (hL n hn).2.2.2⟩, hPE⟩
  · by_cases hj : j < M.length
    · rw [hM]
      split
      · omega
      · split
        · have := bat_le tx (j - (ws.length + 3)); omega
        · by_cases h1 : j = 1
          · subst h1; have := hokG.w1; have := hokG.w1m; omega
          · by_cases h2 : j < ws.length
            · rw [hlt h2 h1]; exact hw j
            · have h3 : j < ws.length + 3 := by
                have : M.length = G.length := by rw [← hMM, List.length_set, layB_len]
                omega
              have ho := hokG.things _ hpG
              have hp9 := not_bad hb1
              have c0 := ho.class_; have c1 := ho.hash1; have c2 := ho.hash2; have c3 := hokG.w1m
              obtain ⟨i, hi, rfl⟩ : ∃ i, i < 3 ∧ j = ws.length + i := ⟨j - ws.length, by omega, by omega⟩
              have h4 : i = 0 ∨ i = 1 ∨ i = 2 := by omega
              rcases h4 with rfl | rfl | rfl
              · rcases c0 with c0 | c0
                · rw [Nat.add_zero]; omega
                · have := th_pcl c0; rw [Nat.add_zero]; omega
              · omega
              · omega
    · rw [nth_out (by omega)]; omega
  · unfold tabB
    rw [isTh_mono (fun r hr => hmem hr) hth, (hhead _ hm).2, (hhead _ hm).1, decide_eq_true hfm, decide_eq_true hsl, Bool.true_and, Bool.true_and, Bool.true_and, hslx, List.all_eq_true]
    intro s hs
    rcases List.mem_or_eq_of_mem_set hs with h | rfl
    · have hx : tslotB ws s = true := by
        unfold tabB at ht
        simp only [Bool.and_eq_true, List.all_eq_true] at ht
        exact ht.2.2.2 s h
      unfold tslotB at hx ⊢
      rw [Bool.or_eq_true] at hx ⊢
      rcases hx with h0 | h0
      · exact .inl h0
      · rw [Bool.and_eq_true, decide_eq_true_iff] at h0
        obtain ⟨a, b, -⟩ := hold s h0.1 h0.2
        exact .inr (by rw [a, b]; rfl)
    · unfold tslotB
      rw [hthM, hpx, hnw.2]; simp
  · cases h : isTh ws (2 * (ws.length : Int))
    · rfl
    · have h1 := (th_pcl h).1
      rw [hpx] at h1
      exact absurd (places_mem h1).2.1 (by omega)
  · unfold txtS
    rw [hpx]
    rw [← strOf_bytes tx, bat_list]
    congr 1
    refine list_nth ?_ ?_
    · rw [slotsL_len hbMx, hnw.1]; simp
    · intro j hj
      rw [slotsL_len hbMx, hnw.1] at hj
      rw [slotsL_nth hbMx (by rw [hnw.1]; exact hj), hM, if_neg (by omega), if_pos (by omega), show ws.length + 3 + j - (ws.length + 3) = j by omega, nth_eq (by simpa using hj)]
      simp

theorem toList_inj {a b : ByteArray} (h : (a.toList == b.toList) = true) : a = b := by
  have h := eq_of_beq h
  rw [ByteArray.toList_eq, ByteArray.toList_eq] at h
  exact ByteArray.ext (Array.ext' h)
/-- What stands in a table's slot. -/
theorem tab_slot {ws : List Int} {o : Int} (ht : tabB ws o = true) (hok : OkH ws) {j : Nat} (hj : j < slotsN ws (pcl o)) : tslotB ws (nth (slotsL ws (pcl o)) j) = true :=
  tslot_at ht j hj (slotsL_len (places_mem (th_pcl (tab_parts ht).1).1).2.2)
theorem hit_zero (ws : List Int) (tx : ByteArray) : hitB ws tx 0 = true := rfl
theorem hit_iff {ws : List Int} {tx : ByteArray} {s : Int} (h : s ≠ 0) : hitB ws tx s = true ↔ txtS ws s = tx := by
  unfold hitB
  rw [Bool.or_eq_true, beq_iff_eq]
  constructor
  · rintro (h1 | h1)
    · exact absurd h1 h
    · exact toList_inj h1
  · rintro rfl; exact .inr (by simp)
theorem Made.hit {ws ms : List Int} {o x : Int} {q : Nat} {tx one : ByteArray} (h : Made ws ms o q x tx) {s : Int} (hs : tslotB ws s = true) : hitB ms one s = hitB ws one s := by
  unfold tslotB at hs
  rw [Bool.or_eq_true, beq_iff_eq, Bool.and_eq_true, decide_eq_true_iff] at hs
  rcases hs with rfl | ⟨h1, h2⟩
  · rfl
  · unfold hitB; rw [(h.old s h1 h2).2.2]
theorem seat_inv {ws : List Int} {tx : ByteArray} {p k : Nat} (h : seatF ws tx p = (k : Int)) : ∃ i, i < slotsN ws p ∧ (∀ m, m < i → hitB ws tx (nth (slotsL ws p) (atN tx (slotsN ws p) m)) = false) ∧ hitB ws tx (nth (slotsL ws p) (atN tx (slotsN ws p) i)) = true ∧ k = atN tx (slotsN ws p) i := by
  by_cases hh : ∃ i, i < slotsN ws p ∧ hitB ws tx (nth (slotsL ws p) (atN tx (slotsN ws p) i)) = true
  · obtain ⟨i, ⟨hi1, hi2⟩, hmin⟩ : ∃ i, (i < slotsN ws p ∧ hitB ws tx (nth (slotsL ws p) (atN tx (slotsN ws p) i)) = true) ∧ ∀ m, m < i → ¬ (m < slotsN ws p ∧ hitB ws tx (nth (slotsL ws p) (atN tx (slotsN ws p) m)) = true) := by
      obtain ⟨i, hi⟩ := hh
      induction i using Nat.strongRecOn with
      | _ i ih =>
        by_cases hm : ∃ m, m < i ∧ (m < slotsN ws p ∧ hitB ws tx (nth (slotsL ws p) (atN tx (slotsN ws p) m)) = true)
        · obtain ⟨m, hm1, hm2⟩ := hm; exact ih m hm1 hm2
        · exact ⟨i, hi, fun m hm1 hm2 => hm ⟨m, hm1, hm2⟩⟩
    have hmin : ∀ m, m < i → hitB ws tx (nth (slotsL ws p) (atN tx (slotsN ws p) m)) = false := fun m hm => by
      have := hmin m hm
      cases e : hitB ws tx (nth (slotsL ws p) (atN tx (slotsN ws p) m))
      · rfl
      · exact absurd ⟨by omega, e⟩ this
    have := seatF_hit hi1 hmin hi2
    rw [h] at this
    exact ⟨i, hi1, hmin, hi2, by omega⟩
  · have := seatF_none (ws := ws) (tx := tx) (p := p) fun m hm => by
      cases e : hitB ws tx (nth (slotsL ws p) (atN tx (slotsN ws p) m))
      · rfl
      · exact absurd ⟨m, hm, e⟩ hh
    rw [h] at this; omega

/-- A text that is known, as x. -/
structure Known (ws : List Int) (o : Int) (tx : ByteArray) (x : Int) : Prop where
  ok : OkH ws
  tab : tabB ws o = true
  size : tx.size ≤ 60
  ne : x ≠ 0
  seat : ∃ q : Nat, q < slotsN ws (pcl o) ∧ seatF ws tx (pcl o) = (q : Int) ∧ nth (slotsL ws (pcl o)) q = x
theorem Known.txt {ws : List Int} {o : Int} {tx : ByteArray} {x : Int} (h : Known ws o tx x) : txtS ws x = tx := by
  obtain ⟨q, hq, h1, h2⟩ := h.seat
  obtain ⟨i, hi, -, h3, rfl⟩ := seat_inv h1
  rw [h2] at h3
  exact (hit_iff h.ne).1 h3
theorem Known.find {ws : List Int} {o : Int} {tx : ByteArray} {x : Int} (h : Known ws o tx x) : findF ws o tx = (x, 0) := by
  obtain ⟨q, hq, h1, h2⟩ := h.seat
  have h0 : (checkF ws).1 = 0 := by have := okB_iff.2 h.ok; unfold okB at this; simpa using this
  unfold findF
  rw [if_pos (askE_good h0 h.tab h.size)]
  unfold findT
  rw [h1, Int.toNat_natCast, h2, if_neg (by have := h.ne; omega)]
theorem Known.th {ws : List Int} {o : Int} {tx : ByteArray} {x : Int} (h : Known ws o tx x) : isTh ws x = true := by
  obtain ⟨q, hq, h1, h2⟩ := h.seat
  have := tab_slot h.tab h.ok hq
  rw [h2] at this
  unfold tslotB at this
  rw [Bool.or_eq_true, beq_iff_eq, Bool.and_eq_true] at this
  rcases this with h3 | h3
  · exact absurd h3 h.ne
  · exact h3.1

/-- Making another text known leaves the one that is known. -/
theorem Known.more {ws ms : List Int} {o : Int} {one two : ByteArray} {x y : Int} {q : Nat} (h : Known ws o one x) (hm : Made ws ms o q y two) (hq : q < slotsN ws (pcl o)) (h0 : nth (slotsL ws (pcl o)) q = 0) : Known ms o one x := by
  obtain ⟨k, hk, h1, h2⟩ := h.seat
  obtain ⟨i, hi, h3, h4, rfl⟩ := seat_inv h1
  have hmod : ∀ j, atN one (slotsN ws (pcl o)) j < slotsN ws (pcl o) := fun j => Nat.mod_lt _ (by omega)
  have hne : ∀ j, nth (slotsL ws (pcl o)) (atN one (slotsN ws (pcl o)) j) ≠ 0 → nth (slotsL ms (pcl o)) (atN one (slotsN ms (pcl o)) j) = nth (slotsL ws (pcl o)) (atN one (slotsN ws (pcl o)) j) := fun j hj => by
    rw [hm.num, hm.slots, nth_set_ne]
    intro e
    rw [← e] at hj
    exact hj h0
  have hx : nth (slotsL ms (pcl o)) (atN one (slotsN ms (pcl o)) i) = x := by rw [hne i (by rw [h2]; exact h.ne), h2]
  have hs : seatF ms one (pcl o) = (atN one (slotsN ms (pcl o)) i : Int) := by
    refine seatF_hit (by rw [hm.num]; exact hi) (fun m hm2 => ?_) ?_
    · have := h3 m hm2
      rw [hne m (by intro e; rw [e, hit_zero] at this; cases this), hm.hit (tab_slot h.tab h.ok (hmod m)), this]
    · rw [hx, ← h2, hm.hit (tab_slot h.tab h.ok (hmod i))]; exact h4
  exact ⟨hm.ok, hm.tab, h.size, h.ne, _, by rw [hm.num]; exact hmod i, hs, hx⟩

/-- What was made known is known. -/
theorem known_of {ws ms : List Int} {o : Int} {tx : ByteArray} {x : Int} (hok : OkH ws) (h : intF ws o tx = (ms, x, 0)) :
    Known ms o tx x ∧ ((ms = ws) ∨ (isTh ws x = false ∧ ∃ q : Nat, q < slotsN ws (pcl o) ∧ nth (slotsL ws (pcl o)) q = 0 ∧ seatF ws tx (pcl o) = (q : Int) ∧ Made ws ms o q x tx)) := by
  unfold intF at h
  by_cases ha : askE ws o tx = 0
  case neg =>
    rw [if_neg ha] at h
    simp only [Prod.mk.injEq] at h
    exact absurd h.2.2 ha
  rw [if_pos ha] at h
  unfold askE at ha
  by_cases h1 : (checkF ws).1 ≠ 0
  · rw [if_pos h1] at ha; cases ha
  rw [if_neg h1] at ha
  by_cases h2 : tabB ws o = false
  · rw [if_pos h2] at ha; cases ha
  rw [if_neg h2] at ha
  by_cases h3 : 60 < tx.size
  · rw [if_pos h3] at ha; cases ha
  have ht : tabB ws o = true := by simpa using h2
  have hz : tx.size ≤ 60 := by omega
  unfold intT at h
  by_cases h4 : seatF ws tx (pcl o) < 0
  · rw [if_pos h4] at h; simp at h
  rw [if_neg h4] at h
  obtain ⟨q, hq⟩ : ∃ q : Nat, seatF ws tx (pcl o) = q := ⟨(seatF ws tx (pcl o)).toNat, by omega⟩
  rw [hq, Int.toNat_natCast] at h
  obtain ⟨i, hi, h5, h6, rfl⟩ := seat_inv hq
  have hmod : ∀ j, atN tx (slotsN ws (pcl o)) j < slotsN ws (pcl o) := fun j => Nat.mod_lt _ (by omega)
  by_cases h7 : nth (slotsL ws (pcl o)) (atN tx (slotsN ws (pcl o)) i) = 0
  case neg =>
    rw [if_pos h7] at h
    simp only [Prod.mk.injEq] at h
    obtain ⟨rfl, rfl, -⟩ := h
    exact ⟨⟨hok, ht, hz, h7, _, hmod i, hq, rfl⟩, .inl rfl⟩
  rw [if_neg (not_not_intro h7)] at h
  by_cases h8 : newE ws 0 1 tx.size = 0
  case neg =>
    rw [if_neg h8] at h
    simp only [Prod.mk.injEq] at h
    exact absurd h.2.2 h8
  rw [if_pos h8] at h
  simp only [Prod.mk.injEq] at h
  obtain ⟨rfl, rfl, -⟩ := h
  obtain ⟨hm, -, -⟩ := made_of hok ht hz h8 (hmod i)
  unfold intW
  rw [hq, Int.toNat_natCast]
  refine ⟨⟨hm.ok, hm.tab, hz, by have := hok.two; omega, atN tx (slotsN ws (pcl o)) i, by rw [hm.num]; exact hmod i, ?_, ?_⟩, .inr ⟨hm.fresh, _, hmod i, h7, rfl, hm⟩⟩
  · have := seatF_hit (ws := (layB (newW ws 0 1 tx.size) ws.length tx tx.size).set (pcl o + 3 + atN tx (slotsN ws (pcl o)) i) (2 * ws.length)) (tx := tx) (p := pcl o) (i := i) (by rw [hm.num]; exact hi) (fun m hm2 => ?_) ?_
    · rw [this, hm.num]
    · have h9 := h5 m hm2
      rw [hm.num, hm.slots, nth_set_ne (by intro e; rw [← e, h7, hit_zero] at h9; cases h9), hm.hit (tab_slot ht hok (hmod m)), h9]
    · rw [hm.num, hm.slots, nth_set_eq (by rw [slotsL_len (places_mem (th_pcl (tab_parts ht).1).1).2.2]; exact hmod i)]
      exact (hit_iff (by have := hok.two; omega)).2 hm.made.2.2
  · rw [hm.slots, nth_set_eq (by rw [slotsL_len (places_mem (th_pcl (tab_parts ht).1).1).2.2]; exact hmod i)]

/-- The law: what was made known once is found, whatever is made known behind it; unlike texts have unlike things. -/
theorem once_kept {ws ks ms : List Int} {o x y : Int} {one two : ByteArray} (hok : OkH ws) (h1 : intF ws o one = (ks, x, 0)) (h2 : intF ks o two = (ms, y, 0)) :
    findF ms o one = (x, 0) ∧ (y = x ↔ one = two) := by
  obtain ⟨k1, -⟩ := known_of hok h1
  obtain ⟨k2, h3⟩ := known_of k1.ok h2
  rcases h3 with rfl | ⟨hf, q, hq, h0, hse, hm⟩
  · refine ⟨k1.find, fun e => ?_, fun e => ?_⟩
    · subst e; rw [← k1.txt, ← k2.txt]
    · subst e
      have e1 := k1.find; have e2 := k2.find
      rw [e1] at e2; simp at e2; exact e2.symm
  · have k3 := k1.more hm hq h0
    refine ⟨k3.find, fun e => ?_, fun e => ?_⟩
    · subst e; rw [k1.th] at hf; cases hf
    · subst e
      obtain ⟨q2, hq2, h4, h5⟩ := k1.seat
      rw [hse] at h4
      have : q = q2 := by omega
      subst this
      exact absurd (h5.symm.trans h0) k1.ne
theorem once_here {ws ks : List Int} {o x : Int} {one : ByteArray} (hok : OkH ws) (h1 : intF ws o one = (ks, x, 0)) : findF ks o one = (x, 0) ∧ OkH ks := by
  obtain ⟨k1, -⟩ := known_of hok h1
  exact ⟨k1.find, k1.ok⟩
end Go.Proofs.Ytjpppdacamhhfaa
