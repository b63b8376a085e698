/- Plain laws of colours: what ops do to what is protected. No program in sight. Conditions: none. -/
import Derived.Test.YtjpppdacamhhfaaTrSpec
namespace Go.Proofs.Ytjpppdacamhhfaa
set_option linter.unusedVariables false

theorem list_same {l m : List Int} (hl : l.length = m.length) (h : ∀ j, j < l.length → nth l j = nth m j) : l = m := by
  apply List.ext_getElem hl
  intro j h1 h2
  have := h j h1
  rwa [nth_eq h1, nth_eq h2] at this
theorem head_eq {ws ms : List Int} {p : Nat} (h : nth ms (p + 2) = nth ws (p + 2)) : slotsN ms p = slotsN ws p ∧ formOf ms p = formOf ws p := by
  unfold slotsN formOf; rw [h]; exact ⟨rfl, rfl⟩
/-- What a changed slot does. -/
theorem put_slots {ws : List Int} {x a w : Int} (hok : OkH ws) (h : putE ws x a w = 0) {p : Nat} (hp : p ∈ places ws) :
    nth (putW ws x a w) p = nth ws p ∧ formOf (putW ws x a w) p = formOf ws p ∧ slotsN (putW ws x a w) p = slotsN ws p ∧ slotsL (putW ws x a w) p = if p = pcl x then (slotsL ws p).set a.toNat w else slotsL ws p := by
  obtain ⟨ht, h1, h2, h3⟩ := putE_zero h
  obtain ⟨hm, _⟩ := isTh_mem ht
  obtain ⟨hok', hpl⟩ := put_ok hok h
  have hk : a.toNat < slotsN ws (pcl x) := by unfold pcl; omega
  have hm : pcl x ∈ places ws := hm
  have hpb := (places_mem hp).2.2
  have hpb' : badB (putW ws x a w) p = false := (places_mem (hpl ▸ hp)).2.2
  have hlen : pcl x + 3 + a.toNat < ws.length := by
    have := not_bad (places_mem hm).2.2
    unfold slotsN at hk; omega
  have hn : ∀ j, nth (putW ws x a w) j = if pcl x + 3 + a.toNat = j then w else nth ws j := fun j => by
    unfold putW
    rw [nth_set_]
    by_cases e : pcl x + 3 + a.toNat = j
    · rw [if_pos e, if_pos ⟨e, hlen⟩]
    · rw [if_neg e, if_neg (fun h => e h.1)]
  have hh : ∀ i, i < 3 → nth (putW ws x a w) (p + i) = nth ws (p + i) := fun i hi => by rw [hn, if_neg (slot_ne hm hp hk hi)]
  obtain ⟨g1, g2⟩ := head_eq (hh 2 (by omega))
  refine ⟨hh 0 (by omega), g2, g1, list_same ?_ ?_⟩
  · rw [slotsL_len hpb', g1]; split <;> simp [slotsL_len hpb]
  · intro j hj
    rw [slotsL_len hpb', g1] at hj
    rw [slotsL_nth hpb' (by rw [g1]; exact hj), hn]
    by_cases e : pcl x + 3 + a.toNat = p + 3 + j
    · obtain ⟨e1, e2⟩ := slot_inj hm hp hk hj e
      rw [if_pos e, if_pos e1.symm, nth_set_, if_pos ⟨e2, by rw [slotsL_len hpb]; omega⟩]
    · rw [if_neg e]
      split
      · rename_i e1
        subst e1
        rw [nth_set_ne (by intro e2; exact e (by omega)), slotsL_nth hpb hj]
      · rw [slotsL_nth hpb hj]
theorem mem_set {l : List Int} {k : Nat} {w o : Int} (h : o ∈ l.set k w) : o ∈ l ∨ o = w := List.mem_or_eq_of_mem_set h
theorem mem_set_old {l : List Int} {k : Nat} {w o : Int} (h : o ∈ l) : o ∈ l.set k w ∨ o = nth l k := by
  obtain ⟨j, hj, rfl⟩ := List.getElem_of_mem h
  by_cases e : j = k
  · subst e; exact .inr (nth_eq hj).symm
  · left
    have : (l.set k w)[j]? = some l[j] := by rw [List.getElem?_set_ne (Ne.symm e)]; simp [hj]
    exact List.mem_of_getElem? this
theorem put_holds {ws : List Int} {x a w : Int} (hok : OkH ws) (h : putE ws x a w = 0) {p : Nat} (hp : p ∈ places ws) {o : Int} :
    (o ∈ holdsL (putW ws x a w) p → o ∈ holdsL ws p ∨ (p = pcl x ∧ formOf ws p = 0 ∧ o = w)) ∧ (o ∈ holdsL ws p → o ∈ holdsL (putW ws x a w) p ∨ (p = pcl x ∧ formOf ws p = 0 ∧ o = nth (slotsL ws p) a.toNat)) := by
  obtain ⟨h1, h2, h3, h4⟩ := put_slots hok h hp
  unfold holdsL
  rw [h1, h2, h4]
  by_cases hf : formOf ws p = 0
  · rw [if_pos hf, if_pos hf]
    by_cases hx : p = pcl x
    · rw [if_pos hx]
      refine ⟨fun ho => ?_, fun ho => ?_⟩
      · rcases List.mem_cons.1 ho with rfl | ho
        · exact .inl (by simp)
        · rcases mem_set ho with ho | rfl
          · exact .inl (by simp [ho])
          · exact .inr ⟨hx, hf, rfl⟩
      · rcases List.mem_cons.1 ho with rfl | ho
        · exact .inl (by simp)
        · rcases mem_set_old (w := w) (k := a.toNat) ho with ho | rfl
          · exact .inl (by simp [ho])
          · exact .inr ⟨hx, hf, rfl⟩
    · rw [if_neg hx]; exact ⟨.inl, .inl⟩
  · rw [if_neg hf, if_neg hf]; exact ⟨.inl, .inl⟩

theorem put_parts {s : TSt} {op : TOp} (h : putOk s op = true) : putE s.ws op.o op.a op.w = 0 ∧ hereB s.ws s.rs op.o = true ∧ (formOf s.ws (pcl op.o) = 1 ∨ hereB s.ws s.rs op.w = true) := by
  unfold putOk at h
  simpa using h
theorem put_th {s : TSt} {op : TOp} (h : putE s.ws op.o op.a op.w = 0) : isTh s.ws op.o = true ∧ pcl op.o ∈ places s.ws ∧ 0 ≤ op.a ∧ op.a.toNat < slotsN s.ws (pcl op.o) := by
  obtain ⟨h1, h2, h3, -⟩ := putE_zero h
  exact ⟨h1, (isTh_mem h1).1, h2, by unfold pcl; omega⟩
theorem slot_fit {s : TSt} {op : TOp} (hs : TOk s) (h : putE s.ws op.o op.a op.w = 0) (hf : formOf s.ws (pcl op.o) = 0) : fitsB s.ws (nth (slotsL s.ws (pcl op.o)) op.a.toNat) = true := by
  obtain ⟨h1, h2, h3, h4⟩ := put_th h
  rw [slotsL_nth (places_mem h2).2.2 h4]
  exact slot_fits hs.ok h2 (by omega) h4
def putS (s : TSt) (op : TOp) : TSt := ⟨putW s.ws op.o op.a op.w, s.rs, if formOf s.ws (pcl op.o) = 0 then shadeC s.col (nth (slotsL s.ws (pcl op.o)) op.a.toNat) else s.col⟩
theorem putS_tok {s : TSt} {op : TOp} (hs : TOk s) (h : putOk s op = true) : TOk (putS s op) := by
  obtain ⟨he, -, -⟩ := put_parts h
  obtain ⟨hok, hpl⟩ := put_ok hs.ok he
  by_cases hf : formOf s.ws (pcl op.o) = 0
  · obtain ⟨g1, g2⟩ := shade_ok hs.three hs.pl (slot_fit hs he hf)
    have e : (putS s op).col = shadeC s.col (nth (slotsL s.ws (pcl op.o)) op.a.toNat) := if_pos hf
    exact ⟨hok, fun o ho => (fitsB_congr (ws := s.ws) hpl o).trans (hs.fit o ho), by rw [e]; exact g1, by rw [e]; show ∀ p, _ → p ∈ places (putW s.ws op.o op.a op.w); rw [hpl]; exact g2⟩
  · have e : (putS s op).col = s.col := if_neg hf
    exact ⟨hok, fun o ho => (fitsB_congr (ws := s.ws) hpl o).trans (hs.fit o ho), by rw [e]; exact hs.three, by rw [e]; show ∀ p, _ → p ∈ places (putW s.ws op.o op.a op.w); rw [hpl]; exact hs.pl⟩
theorem putS_rise {s : TSt} {op : TOp} : (∀ p, s.col p = 2 → (putS s op).col p = 2) ∧ (∀ p, s.col p = 1 → (putS s op).col p = 1) ∧ (∀ p, s.col p = 0 → (putS s op).col p = 0 ∨ (putS s op).col p = 1) := by
  by_cases hf : formOf s.ws (pcl op.o) = 0
  · have e : (putS s op).col = shadeC s.col (nth (slotsL s.ws (pcl op.o)) op.a.toNat) := if_pos hf
    rw [e]; exact shade_rise _ _
  · have e : (putS s op).col = s.col := if_neg hf
    rw [e]; exact ⟨fun _ => id, fun _ => id, fun _ => .inl⟩
theorem putS_inv {s : TSt} {op : TOp} (hs : TOk s) (hi : InvA s) (h : putOk s op = true) : InvA (putS s op) := by
  obtain ⟨he, hr1, hr2⟩ := put_parts h
  obtain ⟨r2, r1, r0⟩ := putS_rise (s := s) (op := op)
  have hp := putS_tok hs h
  have hP : ∀ p, Prot s p → Prot (putS s op) p := fun p => prot_mono hs r2 r1 (fun p _ => r0 p) (fun p hpl o ho hk hc => by
    rcases (put_holds hs.ok he hpl).2 ho with h1 | ⟨rfl, hf, rfl⟩
    · exact .inl h1
    · right
      have e : (putS s op).col = shadeC s.col (nth (slotsL s.ws (pcl op.o)) op.a.toNat) := if_pos hf
      rw [e, shadeC_at, if_pos ⟨hc, hk, rfl⟩])
  have hb2 : ∀ p, (putS s op).col p = 2 → s.col p = 2 := fun p h2 => by
    rcases hs.three p with h0 | h1 | h3
    · rcases r0 p h0 with e | e <;> omega
    · have := r1 p h1; omega
    · exact h3
  refine ⟨fun o ho hk => hP _ (hi.roots o ho hk), fun p hp2 o ho hk => ?_⟩
  have hp2' := hb2 p hp2
  have hpl := hs.pl p (by omega)
  rcases (put_holds hs.ok he hpl).1 ho with h1 | ⟨rfl, hf, rfl⟩
  · exact hP _ (hi.black p hp2' o h1 hk)
  · rcases hr2 with e | e
    · omega
    · exact hP _ (prot_rch hs hi ((here_rch hs e).2 hk))

/-- A thing more. -/
def newS (s : TSt) (op : TOp) : TSt := ⟨newW s.ws 0 op.f op.s, s.rs ++ [2 * (s.ws.length : Int)], upd s.col s.ws.length 2⟩
theorem new_parts {ws : List Int} {f z : Int} (hok : OkH ws) (h : newE ws 0 f z = 0) : OkH (newW ws 0 f z) ∧ places (newW ws 0 f z) = places ws ++ [ws.length] ∧
    (∀ p ∈ places ws, holdsL (newW ws 0 f z) p = holdsL ws p) ∧ (∀ o ∈ holdsL (newW ws 0 f z) ws.length, o = 0) ∧ ws.length ∉ places ws := by
  obtain ⟨-, h0, h2, hz0, hk, hl, h1⟩ := newE_zero h
  obtain ⟨k, rfl⟩ : ∃ k : Nat, z = k := ⟨z.toNat, by omega⟩
  have hk' : k ≤ 60 := by omega
  obtain ⟨hpl, -⟩ := new_places (cl := 0) (fm := f) (k := k) hok h0 h2 hk'
  have hok' := new_ok hok h
  refine ⟨hok', hpl, fun p hp => ?_, fun o ho => ?_, fun hm => absurd (places_mem hm).2.1 (by omega)⟩
  · have hpm := places_mem hp
    have hnb := not_bad hpm.2.2
    have hb' : badB (newW ws 0 f k) p = false := (places_mem (by rw [hpl]; exact List.mem_append_left _ hp)).2.2
    obtain ⟨g1, g2⟩ := head_eq (ms := newW ws 0 f k) (ws := ws) (p := p) (newW_nth_lt hok.two (by omega) (by omega))
    have hs : slotsL (newW ws 0 f k) p = slotsL ws p := list_same (by rw [slotsL_len hb', g1, slotsL_len hpm.2.2]) (fun j hj => by
      rw [slotsL_len hb', g1] at hj
      rw [slotsL_nth hb' (by rw [g1]; exact hj), slotsL_nth hpm.2.2 hj]
      exact newW_nth_lt hok.two (by unfold slotsN at hj; omega) (by omega))
    unfold holdsL
    rw [g2, hs, newW_nth_lt hok.two hpm.2.1 (by omega)]
  · have hb' : badB (newW ws 0 f k) ws.length = false := (places_mem (by rw [hpl]; simp)).2.2
    unfold holdsL at ho
    rcases List.mem_cons.1 ho with rfl | ho
    · exact newW_nth_new 0 (by omega)
    · split at ho
      · obtain ⟨j, hj, rfl⟩ := (slotsL_mem hb').1 ho
        exact newW_nth_slot j
      · simp at ho
theorem newS_tok {s : TSt} {op : TOp} (hs : TOk s) (h : newE s.ws 0 op.f op.s = 0) : TOk (newS s op) := by
  obtain ⟨hok, hpl, -, -, -⟩ := new_parts hs.ok h
  have hsub : ∀ q ∈ places s.ws, q ∈ places (newW s.ws 0 op.f op.s) := fun q hq => by rw [hpl]; exact List.mem_append_left _ hq
  refine ⟨hok, fun o ho => ?_, fun p => ?_, fun p hp => ?_⟩
  · have ho : o ∈ s.rs ++ [2 * (s.ws.length : Int)] := ho
    rcases List.mem_append.1 ho with ho | ho
    · have := hs.fit o ho
      show fitsB (newW s.ws 0 op.f op.s) o = true
      unfold fitsB at this ⊢
      rw [Bool.or_eq_true] at this ⊢
      exact this.imp id (isTh_mono hsub)
    · rw [List.mem_singleton] at ho
      subst ho
      exact fits_of_th (isTh_of (by rw [show (newS s op).ws = newW s.ws 0 op.f op.s from rfl, hpl]; simp) hok.most)
  · show upd s.col s.ws.length 2 p = 0 ∨ _
    by_cases e : p = s.ws.length
    · subst e; exact .inr (.inr (upd_same ..))
    · show upd s.col s.ws.length 2 p = 0 ∨ upd s.col s.ws.length 2 p = 1 ∨ upd s.col s.ws.length 2 p = 2
      rw [upd_ne _ _ e]; exact hs.three p
  · have hp : upd s.col s.ws.length 2 p ≠ 0 := hp
    show p ∈ places (newW s.ws 0 op.f op.s)
    by_cases e : p = s.ws.length
    · subst e; rw [hpl]; simp
    · rw [upd_ne _ _ e] at hp; exact hsub p (hs.pl p hp)
theorem newS_inv {s : TSt} {op : TOp} (hs : TOk s) (hi : InvA s) (h : newE s.ws 0 op.f op.s = 0) : InvA (newS s op) := by
  obtain ⟨hok, hpl, hh, hz, hnm⟩ := new_parts hs.ok h
  have hc0 : s.col s.ws.length = 0 := Classical.byContradiction fun e => hnm (hs.pl _ e)
  have hcne : ∀ p, p ≠ s.ws.length → (newS s op).col p = s.col p := fun p e => upd_ne _ _ e
  have hP : ∀ p, Prot s p → Prot (newS s op) p := fun p => prot_mono hs (fun p hp => by
      by_cases e : p = s.ws.length
      · subst e; omega
      · rw [hcne p e, hp]) (fun p hp => by
      by_cases e : p = s.ws.length
      · subst e; omega
      · rw [hcne p e, hp]) (fun p hp h0 => by
      left
      rw [hcne p (fun e => hnm (e ▸ hp)), h0]) (fun p hp o ho hk hc => by
      left
      show o ∈ holdsL (newW s.ws 0 op.f op.s) p
      rw [hh p hp]; exact ho)
  refine ⟨fun o ho hk => ?_, fun p hp o ho hk => ?_⟩
  · have ho : o ∈ s.rs ++ [2 * (s.ws.length : Int)] := ho
    rcases List.mem_append.1 ho with ho | ho
    · exact hP _ (hi.roots o ho hk)
    · rw [List.mem_singleton] at ho
      subst ho
      left
      rw [show pcl (2 * (s.ws.length : Int)) = s.ws.length by unfold pcl; omega]
      exact upd_same ..
  · have ho : o ∈ holdsL (newW s.ws 0 op.f op.s) p := ho
    by_cases e : p = s.ws.length
    · subst e
      rw [hz o ho] at hk
      exact absurd hk (by decide)
    · rw [hcne p e] at hp
      have hpm := hs.pl p (by omega)
      rw [hh p hpm] at ho
      exact hP _ (hi.black p hp o ho hk)

def rootS (s : TSt) (op : TOp) : TSt := ⟨s.ws, s.rs.set op.a.toNat op.w, shadeC s.col (nth s.rs op.a.toNat)⟩
theorem root_fit {s : TSt} {op : TOp} (hs : TOk s) (h0 : 0 ≤ op.a) (h1 : op.a < s.rs.length) : fitsB s.ws (nth s.rs op.a.toNat) = true := by
  rw [nth_eq (show op.a.toNat < s.rs.length by omega)]
  exact hs.fit _ (List.getElem_mem _)
theorem rootS_tok {s : TSt} {op : TOp} (hs : TOk s) (h0 : 0 ≤ op.a) (h1 : op.a < s.rs.length) (h2 : hereB s.ws s.rs op.w = true) : TOk (rootS s op) := by
  obtain ⟨g1, g2⟩ := shade_ok hs.three hs.pl (root_fit hs h0 h1)
  refine ⟨hs.ok, fun o ho => ?_, g1, g2⟩
  rcases mem_set ho with ho | rfl
  · exact hs.fit o ho
  · exact (here_rch hs h2).1
theorem rootS_inv {s : TSt} {op : TOp} (hs : TOk s) (hi : InvA s) (h0 : 0 ≤ op.a) (h1 : op.a < s.rs.length) (h2 : hereB s.ws s.rs op.w = true) : InvA (rootS s op) := by
  obtain ⟨r2, r1, r0⟩ := shade_rise s.col (nth s.rs op.a.toNat)
  have hP : ∀ p, Prot s p → Prot (rootS s op) p := fun p => prot_mono (t := rootS s op) hs r2 r1 (fun p _ => r0 p) (fun p _ o ho _ _ => .inl ho)
  refine ⟨fun o ho hk => ?_, fun p hp o ho hk => ?_⟩
  · rcases mem_set ho with ho | rfl
    · exact hP _ (hi.roots o ho hk)
    · exact hP _ (prot_rch hs hi ((here_rch hs h2).2 hk))
  · refine hP _ (hi.black p ?_ o ho hk)
    rcases hs.three p with e | e | e
    · rcases r0 p e with e2 | e2
      · exact absurd (e2.symm.trans hp) (by decide)
      · exact absurd (e2.symm.trans hp) (by decide)
    · exact absurd ((r1 p e).symm.trans hp) (by decide)
    · exact e

theorem doT_cases (s : TSt) (op : TOp) : doT s op = s ∨ (op.k = 1 ∧ doT s op = ⟨s.ws, s.rs, scanC s.ws s.col⟩) ∨ (op.k = 2 ∧ putOk s op = true ∧ doT s op = putS s op) ∨
    (op.k = 3 ∧ newE s.ws 0 op.f op.s = 0 ∧ doT s op = newS s op) ∨ (op.k = 4 ∧ (0 ≤ op.a ∧ op.a < s.rs.length ∧ hereB s.ws s.rs op.w = true) ∧ doT s op = rootS s op) := by
  unfold doT
  by_cases h1 : op.k = 1
  · rw [if_pos h1]; exact .inr (.inl ⟨h1, rfl⟩)
  rw [if_neg h1]
  by_cases h2 : op.k = 2
  · rw [if_pos h2]
    by_cases h : putOk s op = true
    · rw [if_pos h]; exact .inr (.inr (.inl ⟨h2, h, rfl⟩))
    · rw [if_neg h]; exact .inl rfl
  rw [if_neg h2]
  by_cases h3 : op.k = 3
  · rw [if_pos h3]
    by_cases h : newE s.ws 0 op.f op.s = 0
    · rw [if_pos h]; exact .inr (.inr (.inr (.inl ⟨h3, h, rfl⟩)))
    · rw [if_neg h]; exact .inl rfl
  rw [if_neg h3]
  by_cases h4 : op.k = 4
  · rw [if_pos h4]
    by_cases h : 0 ≤ op.a ∧ op.a < s.rs.length ∧ hereB s.ws s.rs op.w = true
    · rw [if_pos h]; exact .inr (.inr (.inr (.inr ⟨h4, h, rfl⟩)))
    · rw [if_neg h]; exact .inl rfl
  rw [if_neg h4]; exact .inl rfl
theorem doT_tok {s : TSt} (hs : TOk s) (op : TOp) : TOk (doT s op) := by
  rcases doT_cases s op with e | ⟨-, e⟩ | ⟨-, h, e⟩ | ⟨-, h, e⟩ | ⟨-, h, e⟩ <;> rw [e]
  · exact hs
  · exact scan_ok hs
  · exact putS_tok hs h
  · exact newS_tok hs h
  · exact rootS_tok hs h.1 h.2.1 h.2.2
theorem doT_inv {s : TSt} (hs : TOk s) (hi : InvA s) (op : TOp) : InvA (doT s op) := by
  rcases doT_cases s op with e | ⟨-, e⟩ | ⟨-, h, e⟩ | ⟨-, h, e⟩ | ⟨-, h, e⟩ <;> rw [e]
  · exact hi
  · exact scan_inv hs hi
  · exact putS_inv hs hi h
  · exact newS_inv hs hi h
  · exact rootS_inv hs hi h.1 h.2.1 h.2.2
theorem start_tok {ws rs : List Int} (hok : OkH ws) (hf : ∀ o ∈ rs, fitsB ws o = true) : TOk (startT ws rs) := by
  obtain ⟨g1, g2⟩ := shades_ok (ws := ws) (l := rs) (col := fun _ => 0) (fun _ => .inl rfl) (fun p h => absurd rfl h) hf
  exact ⟨hok, hf, g1, g2⟩
theorem start_inv {ws rs : List Int} : InvA (startT ws rs) := by
  refine ⟨fun o ho hk => .inr (.grey _ ?_), fun p hp => ?_⟩
  · show shades (fun _ => 0) rs (pcl o) = 1
    rw [shades_at, if_pos ⟨rfl, o, ho, hk, rfl⟩]
  · have hp : shades (fun _ => 0) rs p = 2 := hp
    rw [shades_at] at hp
    split at hp
    · exact absurd hp (by decide)
    · exact absurd hp (by decide)

/-- What was not reached at first stays white. -/
structure InvB (ws0 rs0 : List Int) (s : TSt) : Prop where
  len : ws0.length ≤ s.ws.length
  roots : ∀ o ∈ s.rs, kd o = 3 → Rch ws0 rs0 (pcl o) ∨ ws0.length ≤ pcl o
  holds : ∀ p ∈ places s.ws, (Rch ws0 rs0 p ∨ ws0.length ≤ p) → ∀ o ∈ holdsL s.ws p, kd o = 3 → Rch ws0 rs0 (pcl o) ∨ ws0.length ≤ pcl o
  col : ∀ p, s.col p ≠ 0 → Rch ws0 rs0 p ∨ ws0.length ≤ p
theorem InvB.rch {ws0 rs0 : List Int} {s : TSt} (h : InvB ws0 rs0 s) (hs : TOk s) {p : Nat} (hr : Rch s.ws s.rs p) : Rch ws0 rs0 p ∨ ws0.length ≤ p := by
  have := hr.least (S := fun p => p ∈ places s.ws ∧ (Rch ws0 rs0 p ∨ ws0.length ≤ p)) (fun o ho hk => ⟨fits_pl (hs.fit o ho) hk, h.roots o ho hk⟩) (fun q hq o ho hk => ⟨fits_pl (holds_fits hs.ok hq.1 ho) hk, h.holds q hq.1 hq.2 o ho hk⟩)
  exact this.2
theorem start_invB {ws rs : List Int} (hok : OkH ws) (hf : ∀ o ∈ rs, fitsB ws o = true) : InvB ws rs (startT ws rs) := by
  refine ⟨Nat.le_refl _, fun o ho hk => .inl (.root o ho hk), fun p hp hg o ho hk => ?_, fun p hp => ?_⟩
  · rcases hg with hg | hg
    · exact .inl (.step p o hg ho hk)
    · exact absurd (places_mem hp).2.1 (by have : (startT ws rs).ws = ws := rfl; rw [this]; omega)
  · have hp : shades (fun _ => 0) rs p ≠ 0 := hp
    rw [shades_at] at hp
    split at hp
    · rename_i h
      obtain ⟨-, o, ho, hk, rfl⟩ := h
      exact .inl (.root o ho hk)
    · exact absurd rfl hp
theorem shade_B {P : Nat → Prop} {col : Nat → Int} {o : Int} (h : ∀ p, col p ≠ 0 → P p) (ho : kd o = 3 → P (pcl o)) : ∀ p, shadeC col o p ≠ 0 → P p := fun p hp => by
  rw [shadeC_at] at hp
  split at hp
  · rename_i e
    obtain ⟨-, hk, rfl⟩ := e
    exact ho hk
  · exact h p hp
theorem shades_B {P : Nat → Prop} : ∀ {l : List Int} {col : Nat → Int} (h : ∀ p, col p ≠ 0 → P p) (ho : ∀ o ∈ l, kd o = 3 → P (pcl o)), ∀ p, shades col l p ≠ 0 → P p
  | [], _, h, _ => h
  | a :: l, col, h, ho => shades_B (l := l) (shade_B h (ho a (by simp))) (fun o hl => ho o (by simp [hl]))
theorem doT_invB {ws0 rs0 : List Int} {s : TSt} (hs : TOk s) (h : InvB ws0 rs0 s) (op : TOp) : InvB ws0 rs0 (doT s op) := by
  rcases doT_cases s op with e | ⟨-, e⟩ | ⟨-, hp, e⟩ | ⟨-, hn, e⟩ | ⟨-, hr, e⟩ <;> rw [e]
  · exact h
  · refine ⟨h.len, h.roots, h.holds, fun p => ?_⟩
    show scanC s.ws s.col p ≠ 0 → _
    intro hp
    cases hg : greyAt s.ws s.col with
    | none =>
      have e : scanC s.ws s.col = s.col := by unfold scanC; rw [hg]
      rw [e] at hp
      exact h.col p hp
    | some g =>
      have e : scanC s.ws s.col = upd (shades s.col (holdsL s.ws g)) g 2 := by unfold scanC; rw [hg]
      rw [e] at hp
      obtain ⟨hgp, hg1⟩ := grey_some hg
      have hG := h.col g (by omega)
      by_cases e : p = g
      · subst e; exact hG
      · rw [upd_ne _ _ e] at hp
        exact shades_B (P := fun p => Rch ws0 rs0 p ∨ ws0.length ≤ p) h.col (fun o ho hk => h.holds g hgp hG o ho hk) p hp
  · obtain ⟨he, hr1, hr2⟩ := put_parts hp
    obtain ⟨h1, h2, h3, h4⟩ := put_th he
    obtain ⟨hok, hpl⟩ := put_ok hs.ok he
    have hO := h.rch hs ((here_rch hs hr1).2 (th_kd h1))
    refine ⟨?_, h.roots, fun p hpp hg o ho hk => ?_, ?_⟩
    · show ws0.length ≤ (putW s.ws op.o op.a op.w).length
      unfold putW; rw [List.length_set]; exact h.len
    · have hpp : p ∈ places (putW s.ws op.o op.a op.w) := hpp
      rw [hpl] at hpp
      rcases (put_holds hs.ok he hpp).1 ho with ho | ⟨rfl, hf, rfl⟩
      · exact h.holds p hpp hg o ho hk
      · rcases hr2 with e | e
        · omega
        · exact h.rch hs ((here_rch hs e).2 hk)
    · by_cases hf : formOf s.ws (pcl op.o) = 0
      · have e : (putS s op).col = shadeC s.col (nth (slotsL s.ws (pcl op.o)) op.a.toNat) := if_pos hf
        rw [e]
        refine shade_B (P := fun p => Rch ws0 rs0 p ∨ ws0.length ≤ p) h.col (fun hk => h.holds _ h2 hO _ ?_ hk)
        unfold holdsL
        rw [if_pos hf]
        have hl : op.a.toNat < (slotsL s.ws (pcl op.o)).length := by rw [slotsL_len (places_mem h2).2.2]; exact h4
        rw [nth_eq hl]
        exact List.mem_cons_of_mem _ (List.getElem_mem _)
      · have e : (putS s op).col = s.col := if_neg hf
        rw [e]; exact h.col
  · obtain ⟨hok, hpl, hh, hz, hnm⟩ := new_parts hs.ok hn
    have hlen := h.len
    refine ⟨?_, fun o ho hk => ?_, fun p hpp hg o ho hk => ?_, fun p hpc => ?_⟩
    · show ws0.length ≤ (newW s.ws 0 op.f op.s).length
      unfold newW; simp; omega
    · have ho : o ∈ s.rs ++ [2 * (s.ws.length : Int)] := ho
      rcases List.mem_append.1 ho with ho | ho
      · exact h.roots o ho hk
      · rw [List.mem_singleton] at ho
        subst ho
        right; unfold pcl; omega
    · have hpp : p ∈ places (newW s.ws 0 op.f op.s) := hpp
      have ho : o ∈ holdsL (newW s.ws 0 op.f op.s) p := ho
      rw [hpl] at hpp
      rcases List.mem_append.1 hpp with hpp | hpp
      · rw [hh p hpp] at ho; exact h.holds p hpp hg o ho hk
      · rw [List.mem_singleton] at hpp
        subst hpp
        rw [hz o ho] at hk
        exact absurd hk (by decide)
    · have hpc : upd s.col s.ws.length 2 p ≠ 0 := hpc
      by_cases e : p = s.ws.length
      · subst e; exact .inr h.len
      · rw [upd_ne _ _ e] at hpc; exact h.col p hpc
  · obtain ⟨h0, h1, h2⟩ := hr
    refine ⟨h.len, fun o ho hk => ?_, h.holds, ?_⟩
    · rcases mem_set ho with ho | rfl
      · exact h.roots o ho hk
      · exact h.rch hs ((here_rch hs h2).2 hk)
    · refine shade_B (P := fun p => Rch ws0 rs0 p ∨ ws0.length ≤ p) h.col (fun hk => h.roots _ ?_ hk)
      rw [nth_eq (show op.a.toNat < s.rs.length by omega)]
      exact List.getElem_mem _

theorem play_all {ws rs : List Int} (hok : OkH ws) (hf : ∀ o ∈ rs, fitsB ws o = true) (ops : List TOp) : TOk (playT ws rs ops) ∧ InvA (playT ws rs ops) ∧ InvB ws rs (playT ws rs ops) := by
  unfold playT
  have : ∀ (ops : List TOp) (s : TSt), TOk s → InvA s → InvB ws rs s → TOk (ops.foldl doT s) ∧ InvA (ops.foldl doT s) ∧ InvB ws rs (ops.foldl doT s) := by
    intro ops
    induction ops with
    | nil => intro s h1 h2 h3; exact ⟨h1, h2, h3⟩
    | cons op ops ih => intro s h1 h2 h3; exact ih _ (doT_tok h1 op) (doT_inv h1 h2 op) (doT_invB h1 h3 op)
  exact this ops _ (start_tok hok hf) start_inv (start_invB hok hf)
/-- In the end what is reached is black. -/
theorem done_black {s : TSt} (hs : TOk s) (hi : InvA s) (hd : doneB s = true) {p : Nat} (hr : Rch s.ws s.rs p) : s.col p = 2 := by
  rcases prot_rch hs hi hr with h | h
  · exact h
  · exfalso
    have hno : ∀ p ∈ places s.ws, s.col p ≠ 1 := fun p hp => by
      unfold doneB at hd
      rw [List.all_eq_true] at hd
      simpa using hd p hp
    have : ∀ p, Wp s.ws s.col p → False := fun p h => by
      induction h with
      | grey p h1 => exact hno p (hs.pl p (by omega)) h1
      | step _ _ _ _ _ _ ih => exact ih
    exact this p h
theorem done_white {ws0 rs0 : List Int} {s : TSt} (h : InvB ws0 rs0 s) {p : Nat} (hp : p < ws0.length) (hn : ¬ Rch ws0 rs0 p) : s.col p = 0 := Classical.byContradiction fun e => by
  rcases h.col p e with h1 | h1
  · exact hn h1
  · omega
end Go.Proofs.Ytjpppdacamhhfaa
