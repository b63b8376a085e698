/- Plain laws: what was moved once stays as it is when it is moved again. No program in sight. Conditions: none. -/
import Derived.Test.YtjpppdacamhhfaaMSpec2
namespace Go.Proofs.Ytjpppdacamhhfaa
set_option linter.unusedVariables false

/-- Places told by the walk itself. -/
theorem off_all (ws : List Int) : ∀ (f p : Nat), p ≤ ws.length → ws.length ≤ p + f → badFrom ws p = none → ∀ q ∈ plFrom ws p, offO ws (plFrom ws p) p q = q
  | 0, p, h1, h2, _, q, hq => by rw [plFrom_end (by omega)] at hq; simp at hq
  | f + 1, p, h1, h2, hb, q, hq => by
    rcases Nat.lt_or_ge p ws.length with hl | hl
    · obtain ⟨g1, g2⟩ := badFrom_none hb hl
      have hn := nxt_gt ws p
      have hle := nxt_le g1
      rw [plFrom_ok hl g1] at hq ⊢
      unfold offO
      split
      · rename_i e; exact e
      · rename_i e
        rcases List.mem_cons.1 hq with e' | h'
        · exact absurd e'.symm e
        · rw [← nxt_sz]
          exact off_all ws f (nxt ws p) hle (by omega) g2 q h'
    · rw [plFrom_end hl] at hq; simp at hq
theorem toO_id {ws : List Int} (hok : OkH ws) {q : Nat} (hq : q ∈ places ws) : toO ws (places ws) q = q := by
  have := hok.two
  have hb : badFrom ws 2 = none := hok.bad
  exact off_all ws ws.length 2 this (by omega) hb q hq
theorem now_id {ws : List Int} (hok : OkH ws) {o : Int} (hf : fitsB ws o = true) : nowO (toO ws (places ws)) o = o := by
  by_cases hk : kd o = 3
  · obtain ⟨h0, h1, h2⟩ := (kd_three o).1 hk
    unfold nowO
    rw [if_pos hk, toO_id hok (fits_pl hf hk)]
    unfold pcl
    omega
  · exact if_neg hk
/-- A heap laid in the order of its places is itself. -/
theorem arr_id {ws : List Int} (hok : OkH ws) : arrW ws (places ws) = ws := by
  have hb : ∀ p ∈ places ws, badB ws p = false := fun p hp => (places_mem hp).2.2
  refine (PartW.fin (ord := places ws) (xs := ws) ⟨(endO_places hok).symm, rfl, rfl, ?_, ?_⟩ (places_nodup ws) hb).symm
  · intro p hp i hi hC
    rw [toO_id hok hp]
    refine (now_id hok ?_).symm
    rcases hC with rfl | ⟨h3, hf⟩
    · exact class_fits hok hp
    · have := slot_fits hok hp hf (k := i - 3) (by unfold szT at hi; omega)
      rwa [show p + 3 + (i - 3) = p + i from by omega] at this
  · intro p hp i hi _
    rw [toO_id hok hp]
theorem arrR_id {ws rs : List Int} (hok : OkH ws) (hf : ∀ o ∈ rs, fitsB ws o = true) : arrR ws rs (places ws) = rs := by
  unfold arrR
  exact (List.map_congr_left (g := id) (fun o ho => now_id hok (hf o ho))).trans (List.map_id _)

section
variable {ws rs : List Int} {ord : List Nat} (hok : OkH ws) (hr : ∀ o ∈ rs, fitsB ws o = true) (ho : OrdOf ws rs ord)
include hok hr ho
theorem visit_now {a : List Nat} {o : Int} (ha : ∀ p ∈ a, p ∈ ord) (hp : kd o = 3 → pcl o ∈ ord) : visit (a.map (toO ws ord)) (nowO (toO ws ord) o) = (visit a o).map (toO ws ord) := by
  by_cases hk : kd o = 3
  · obtain ⟨k1, k2⟩ := now_kd hok hr ho hk (hp hk)
    have hiff : toO ws ord (pcl o) ∈ a.map (toO ws ord) ↔ pcl o ∈ a := by
      constructor
      · intro h
        obtain ⟨q, hq, e⟩ := List.mem_map.1 h
        have := offO_inj ws ord 2 (ha q hq) (hp hk) e
        rwa [← this]
      · exact fun h => List.mem_map.2 ⟨_, h, rfl⟩
    unfold visit
    by_cases hin : pcl o ∈ a
    · rw [if_neg (fun e => e.2 (by rw [k2]; exact hiff.2 hin)), if_neg (fun e => e.2 hin)]
    · rw [if_pos ⟨k1, by rw [k2]; exact fun e => hin (hiff.1 e)⟩, if_pos ⟨hk, hin⟩, k2, List.map_append]; rfl
  · have e : nowO (toO ws ord) o = o := nowO_no hk
    unfold visit
    rw [e, if_neg (fun e => hk e.1), if_neg (fun e => hk e.1)]
theorem visits_now : ∀ (l : List Int) {a : List Nat}, (∀ p ∈ a, p ∈ ord) → (∀ o ∈ l, kd o = 3 → pcl o ∈ ord) → visits (a.map (toO ws ord)) (l.map (nowO (toO ws ord))) = (visits a l).map (toO ws ord)
  | [], _, _, _ => rfl
  | o :: l, a, ha, hp => by
    rw [List.map_cons, visits_cons, visits_cons, visit_now hok hr ho ha (hp o List.mem_cons_self)]
    refine visits_now l (fun p h => ?_) (fun x hx => hp x (List.mem_cons_of_mem _ hx))
    rcases visit_mem.1 h with h | ⟨hk, rfl⟩
    · exact ha p h
    · exact hp o List.mem_cons_self hk
theorem chen_now : ∀ j, chen (arrW ws ord) (arrR ws rs ord) j = (chen ws rs j).map (toO ws ord)
  | 0 => visits_now hok hr ho rs (a := []) (fun _ h => by simp at h) (fun o h hk => (ho.iff _).2 (.root o h hk))
  | j + 1 => by
    have ih := chen_now j
    have hmem : ∀ p ∈ chen ws rs j, p ∈ ord := fun p hp => (ho.iff p).2 (chen_rch j hp)
    rw [chen, chen, ih, List.length_map]
    by_cases hl : j < (chen ws rs j).length
    · rw [if_pos hl, if_pos hl]
      have e : ((chen ws rs j).map (toO ws ord)).getD j 0 = toO ws ord ((chen ws rs j).getD j 0) := by
        rw [getD_el (by simpa using hl), getD_el hl, List.getElem_map]
      have hp : (chen ws rs j).getD j 0 ∈ ord := by rw [getD_el hl]; exact hmem _ (List.getElem_mem hl)
      rw [e, arr_holds hok hr ho hp]
      exact visits_now hok hr ho _ hmem (fun o h hk => (ho.iff _).2 (.step _ o ((ho.iff _).1 hp) h hk))
    · rw [if_neg hl, if_neg hl]
end
theorem posO_map {ws : List Int} : ∀ (a : List Nat) (t : Nat), a.Nodup → a.map (offO ws a t) = posO ws a t
  | [], _, _ => rfl
  | p :: a, t, hn => by
    obtain ⟨n1, n2⟩ := List.nodup_cons.1 hn
    rw [posO, List.map_cons, ← posO_map a (t + szT ws p) n2]
    congr 1
    · simp [offO]
    · refine List.map_congr_left fun q hq => ?_
      rw [offO, if_neg (fun e => n1 (by rw [e]; exact hq))]
/-- Moved once more all stays. -/
theorem move_twice {ws rs : List Int} {k : Nat} (hok : OkH ws) (hr : ∀ o ∈ rs, fitsB ws o = true) (hk : (chen ws rs k).length = k) {X Y : List Int} (hX : X = arrW ws (chen ws rs k)) (hY : Y = arrR ws rs (chen ws rs k)) {k' : Nat} (hk' : (chen X Y k').length = k') :
    arrW X (chen X Y k') = X ∧ arrR X Y (chen X Y k') = Y := by
  have ho := chen_ord hk
  have h1 := chen_now hok hr ho k
  rw [← hX, ← hY] at h1
  have h2 : (chen X Y k).length = k := by rw [h1, List.length_map, hk]
  obtain rfl := chen_one h2 hk'
  have h3 : chen X Y k = places X := by
    rw [h1, hX, (arr_places hok hr ho).1]
    exact posO_map _ 2 ho.nodup
  have hokX : OkH X := by rw [hX]; exact arr_ok hok hr ho
  have hfX : ∀ o ∈ Y, fitsB X o = true := by rw [hX, hY]; exact arrR_fits hok hr ho
  rw [h3]
  exact ⟨arr_id hokX, arrR_id hokX hfX⟩
/-- As many words as where it is swept. -/
theorem move_len {ws rs : List Int} {a b : List Nat} (hok : OkH ws) (hr : ∀ o ∈ rs, fitsB ws o = true) (ha : OrdOf ws rs a) (hb : OrdOf ws rs b) : (arrW ws a).length = (arrW ws b).length := by
  rw [arr_len hok hr ha, arr_len hok hr hb]
  exact endO_perm ws ha.nodup hb.nodup (fun p => (ha.iff p).trans (hb.iff p).symm) 2
end Go.Proofs.Ytjpppdacamhhfaa
