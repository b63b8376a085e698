/- Where things have gone: maps and lists that tell it; the small functions 'now'. Conditions: references that fit. -/
import Derived.Test.YtjpppdacamhhfaaHeap1
import Derived.Test.YtjpppdacamhhfaaMem4
import Derived.Test.YtjpppdacamhhfaaMSpec
import Derived.Test.YtjpppdacamhhfaaSSpec
namespace Go.Proofs.Ytjpppdacamhhfaa
open Go.RowKit
set_option linter.unusedVariables false

def movedM (ws : List Int) (ord : List Nat) : Int → Option Value := fun k => if 0 ≤ k ∧ k.toNat ∈ ord then some (.int .i64 (toO ws ord k.toNat)) else none
theorem movedM_nil (ws : List Int) : movedM ws [] = fun _ => none := by funext k; simp [movedM]
theorem movedM_push (ws : List Int) {ord : List Nat} {p : Nat} (h : p ∉ ord) : put (movedM ws ord) (p : Int) (.int .i64 (endO ws ord 2)) = movedM ws (ord ++ [p]) := by
  funext k
  by_cases hk : k = (p : Int)
  · subst hk
    rw [put_same]
    unfold movedM
    rw [if_pos ⟨by omega, by simp⟩, Int.toNat_natCast, toO_snoc_eq ws h]
  · rw [put_other _ _ hk]
    unfold movedM
    by_cases hc : 0 ≤ k ∧ k.toNat ∈ ord
    · have hne : k.toNat ≠ p := by omega
      rw [if_pos hc, if_pos ⟨hc.1, List.mem_append_left _ hc.2⟩, toO_snoc_ne ws hne]
    · rw [if_neg hc, if_neg]
      rintro ⟨h1, h2⟩
      rcases List.mem_append.1 h2 with h2 | h2
      · exact hc ⟨h1, h2⟩
      · rw [List.mem_singleton] at h2; omega
theorem movedM_get (ws : List Int) (ord : List Nat) {k : Int} (hk : 0 ≤ k) : (movedM ws ord k).getD (.int .i64 0) = .int .i64 (toO ws ord k.toNat) := by
  unfold movedM
  by_cases hc : 0 ≤ k ∧ k.toNat ∈ ord
  · rw [if_pos hc]; rfl
  · rw [if_neg hc, to_out (fun e => hc ⟨hk, e⟩)]; rfl
theorem movedM_some (ws : List Int) (ord : List Nat) {k : Int} (hk : 0 ≤ k) : (movedM ws ord k).isSome = decide (k.toNat ∈ ord) := by
  unfold movedM
  by_cases hc : k.toNat ∈ ord
  · rw [if_pos ⟨hk, hc⟩]; simp [hc]
  · rw [if_neg (fun e => hc e.2)]; simp [hc]

def tosL (ws : List Int) (ord : List Nat) (n : Nat) : List Int := (List.range n).map fun q => (toO ws ord q : Int)
theorem tosL_len (ws : List Int) (ord : List Nat) (n : Nat) : (tosL ws ord n).length = n := by simp [tosL]
theorem tosL_nth {ws : List Int} {ord : List Nat} {n q : Nat} (h : q < n) : nth (tosL ws ord n) q = (toO ws ord q : Int) := by simp [nth, tosL, h]
theorem tosL_nil (ws : List Int) (n : Nat) : tosL ws [] n = List.replicate n 0 := by
  apply list_ext_nth
  · simp [tosL]
  · intro j hj
    rw [tosL_len] at hj
    rw [tosL_nth hj, nth_replicate]; rfl
theorem tosL_set {ws : List Int} {ord : List Nat} {n p : Nat} (h : p ∉ ord) (hp : p < n) : (tosL ws ord n).set p (endO ws ord 2 : Int) = tosL ws (ord ++ [p]) n := by
  apply list_ext_nth
  · simp [tosL]
  · intro j hj
    rw [List.length_set, tosL_len] at hj
    rw [tosL_nth hj]
    by_cases e : j = p
    · subst e; rw [nth_set_eq (by rw [tosL_len]; exact hj), toO_snoc_eq ws h]
    · rw [nth_set_ne (fun e' => e e'.symm), tosL_nth hj, toO_snoc_ne ws e]

/-- Things are laid within 100000 words. -/
theorem nowO_bd {ws vs : List Int} {ord : List Nat} (hb : ∀ p, toO ws ord p ≤ 100000) {o : Int} (h : fitsB vs o = true) : -2147483647 ≤ nowO (toO ws ord) o ∧ nowO (toO ws ord) o ≤ 2147483647 := by
  have := fits_bd h
  have := hb (pcl o)
  unfold nowO
  split <;> omega

set_option maxRecDepth 100000 in
theorem snow_any (ws vs : List Int) (ord : List Nat) (hb : ∀ p, toO ws ord p ≤ 100000) (N M n : Nat) (o : Int) (w : World) (hN : Blk w N 110 #[.map (some M)]) (hM : MapI w M n (movedM ws ord)) (ho : fitsB vs o = true) :
    Calls Try.prog 117 #[.int .i64 o, .pointer (some ⟨N, 0, none⟩)] w fun e w' => e = .returned (.int .i64 (nowO (toO ws ord) o)) ∧ w = w' := by
  obtain ⟨x1, x2⟩ := fits_bd ho
  obtain ⟨n1, n2, n3⟩ := hN.f1
  by_cases hk : kd o = 3
  · have h3 := (kd_three o).1 hk
    obtain ⟨q0, q1, q2⟩ := h3
    have hrun := hM.look (t := 110) (e := 3) Try.underlying110 (zero3 _) false (o / 2) (by omega) (by omega)
    rw [movedM_get ws ord (by omega)] at hrun
    have hp : (o / 2).toNat = pcl o := rfl
    rw [hp] at hrun
    have hbp := hb (pcl o)
    have hE := Lib.hid (nowO_yes (to := toO ws ord) hk)
    have hkb : (kd o != 3) = false := by simpa using hk
    clear hM hN hk hp q0 ho hb
    go_enter Try.func117, Try.ntmps117
    go_wp2_with (go_at_call 31; refine (kind_any _ _ (by omega) (by omega)).mono ?_; rintro e w' ⟨rfl, rfl⟩)
    go_ret
    exact ⟨ret_int hE.out.symm, rfl⟩
  · have hE := Lib.hid (nowO_no (to := toO ws ord) hk)
    have hkb : (kd o != 3) = true := by simpa using hk
    clear hM hN hk ho hb
    go_enter Try.func117, Try.ntmps117
    go_wp2_with (go_at_call 31; refine (kind_any _ _ (by omega) (by omega)).mono ?_; rintro e w' ⟨rfl, rfl⟩)
    go_ret
    exact ⟨ret_int hE.out.symm, rfl⟩

section
variable (ws vs : List Int) (ord : List Nat) (hb : ∀ p, toO ws ord p ≤ 100000) (base G cap n : Nat) (o : Int) (w : World) (hO : Own w base (.slice (some ⟨G, 0, none⟩) n cap) (tosL ws ord n)) (ho : fitsB vs o = true) (hl : vs.length ≤ n)
include hb hO ho hl
set_option maxRecDepth 100000 in
theorem rnow_any : Calls Try.prog 118 #[.slice (some ⟨G, 0, none⟩) n cap, .int .i64 o] w fun e w' => e = .returned (.int .i64 (nowO (toO ws ord) o)) ∧ w = w' := by
  obtain ⟨x1, x2⟩ := fits_bd ho
  by_cases hk : kd o = 3
  · have h3 := (kd_three o).1 hk
    have hpl := (places_mem (fits_pl ho hk)).2.1
    obtain ⟨q0, q1, q2⟩ := h3
    have hc := hO.cell (pcl o) (by rw [tosL_len]; omega)
    rw [tosL_nth (by omega)] at hc
    have hp : ((pcl o : Nat) : Int) = o / 2 := by unfold pcl; omega
    have hp2 : (o / 2).toNat = pcl o := rfl
    have hbp := hb (pcl o)
    have e2 : o / 2 < (n : Int) := by omega
    have hE := Lib.hid (nowO_yes (to := toO ws ord) hk)
    have hkb : (kd o != 3) = false := by simpa using hk
    clear hO hk hp q0 ho hb hpl
    go_enter Try.func118, Try.ntmps118
    go_wp2_with (go_at_call 34; refine (rkind_any _ _ (by omega) (by omega)).mono ?_; rintro e w' ⟨rfl, rfl⟩)
    go_ret
    exact ⟨ret_int hE.out.symm, rfl⟩
  · have hE := Lib.hid (nowO_no (to := toO ws ord) hk)
    have hkb : (kd o != 3) = true := by simpa using hk
    clear hO hk ho hb
    go_enter Try.func118, Try.ntmps118
    go_wp2_with (go_at_call 34; refine (rkind_any _ _ (by omega) (by omega)).mono ?_; rintro e w' ⟨rfl, rfl⟩)
    go_ret
    exact ⟨ret_int hE.out.symm, rfl⟩
set_option maxRecDepth 100000 in
theorem rnow17_any : Calls Try.prog 104 #[.slice (some ⟨G, 0, none⟩) n cap, .int .i64 o] w fun e w' => e = .returned (.int .i64 (nowO (toO ws ord) o)) ∧ w = w' := by
  obtain ⟨x1, x2⟩ := fits_bd ho
  by_cases hk : kd o = 3
  · have h3 := (kd_three o).1 hk
    have hpl := (places_mem (fits_pl ho hk)).2.1
    obtain ⟨q0, q1, q2⟩ := h3
    have hc := hO.cell (pcl o) (by rw [tosL_len]; omega)
    rw [tosL_nth (by omega)] at hc
    have hp : ((pcl o : Nat) : Int) = o / 2 := by unfold pcl; omega
    have hp2 : (o / 2).toNat = pcl o := rfl
    have hbp := hb (pcl o)
    have e2 : o / 2 < (n : Int) := by omega
    have hE := Lib.hid (nowO_yes (to := toO ws ord) hk)
    have hkb : (kd o != 3) = false := by simpa using hk
    clear hO hk hp q0 ho hb hpl
    go_enter Try.func104, Try.ntmps104
    go_wp2_with (go_at_call 34; refine (rkind_any _ _ (by omega) (by omega)).mono ?_; rintro e w' ⟨rfl, rfl⟩)
    go_ret
    exact ⟨ret_int hE.out.symm, rfl⟩
  · have hE := Lib.hid (nowO_no (to := toO ws ord) hk)
    have hkb : (kd o != 3) = true := by simpa using hk
    clear hO hk ho hb
    go_enter Try.func104, Try.ntmps104
    go_wp2_with (go_at_call 34; refine (rkind_any _ _ (by omega) (by omega)).mono ?_; rintro e w' ⟨rfl, rfl⟩)
    go_ret
    exact ⟨ret_int hE.out.symm, rfl⟩
end

/-- What a row holds that has just been made. -/
theorem Own.lit (w : World) (base : Nat) (xs : List Int) (hb : base ≤ w.heap.size) (hl : xs.length ≤ 1000000) : Own (w.alloc (.cells (xs.map (Value.int .i64)).toArray 3)) base (.slice (some ⟨w.heap.size, 0, none⟩) xs.length xs.length) xs := by
  unfold Own
  exact World.ownsRow_lit w (xs.map (Value.int .i64)).toArray xs.length hb (by simp [maxLen]; omega) (by simp)

/-! What is laid, step by step. -/
theorem laidO_snoc (h : Int → Int) (ws : List Int) (a : List Nat) (p : Nat) : laidO h ws (a ++ [p]) = laidO h ws a ++ thingO h ws p := by
  unfold laidO; rw [List.flatMap_append, List.append_assoc]; simp
theorem filter_snoc (f : Nat → Bool) (pre : List Nat) (p : Nat) : (pre ++ [p]).filter f = if f p = true then pre.filter f ++ [p] else pre.filter f := by
  rw [List.filter_append]
  cases h : f p <;> simp [List.filter, h]
def slotsO (h : Int → Int) (ws : List Int) (p : Nat) : List Int := if formOf ws p = 1 then slotsL ws p else (slotsL ws p).map h
theorem slotsO_len {h : Int → Int} {ws : List Int} {p : Nat} (hb : badB ws p = false) : (slotsO h ws p).length = slotsN ws p := by
  have := slotsL_len hb
  unfold slotsO; split <;> simp [this]
theorem slotsO_nth {h : Int → Int} {ws : List Int} {p k : Nat} (hb : badB ws p = false) (hk : k < slotsN ws p) : nth (slotsO h ws p) k = if formOf ws p = 1 then nth ws (p + 3 + k) else h (nth ws (p + 3 + k)) := by
  have hl := slotsL_len hb
  unfold slotsO
  split
  · exact slotsL_nth hb hk
  · rw [nth_map (by omega), slotsL_nth hb hk]
theorem thingO_eq (h : Int → Int) (ws : List Int) (p : Nat) : thingO h ws p = [h (nth ws p), nth ws (p + 1), nth ws (p + 2)] ++ slotsO h ws p := rfl
/-- The order of a sweep. -/
theorem sweep_ord {ws rs : List Int} {f : Nat → Bool} (hok : OkH ws) (hr : ∀ o ∈ rs, fitsB ws o = true) (hf : Tells ws rs f) : OrdOf ws rs ((places ws).filter f) :=
  ⟨(places_nodup ws).filter f, fun p => by
    rw [List.mem_filter, hf p]
    exact ⟨fun h => h.2, fun h => ⟨h.pl hok hr, h⟩⟩⟩
theorem toO_small {ws : List Int} {ord : List Nat} (hok : OkH ws) (hn : ord.Nodup) (hs : ∀ p ∈ ord, p ∈ places ws) : ∀ p, toO ws ord p ≤ 100000 := fun p => by
  by_cases hp : p ∈ ord
  · have h1 := offO_in ws ord 2 hp
    have h2 := endO_le ws ord (places ws) 2 hn hs
    have h3 := endO_places hok
    have h4 := hok.most
    unfold toO; omega
  · rw [to_out hp]; omega
theorem endO_small {ws : List Int} {ord : List Nat} (hok : OkH ws) (hn : ord.Nodup) (hs : ∀ p ∈ ord, p ∈ places ws) : endO ws ord 2 ≤ 2000 := by
  have h2 := endO_le ws ord (places ws) 2 hn hs
  have h3 := endO_places hok
  have h4 := hok.most
  omega

end Go.Proofs.Ytjpppdacamhhfaa
