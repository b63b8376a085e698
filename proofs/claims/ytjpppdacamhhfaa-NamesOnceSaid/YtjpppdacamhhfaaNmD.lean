/- names.asked, names.Find. Conditions: the words are numbers of 64 bits. -/
import Derived.Test.YtjpppdacamhhfaaNmC
import Derived.BigQuiet
namespace Go.Proofs.Ytjpppdacamhhfaa
open Go.RowKit
set_option linter.unusedVariables false

def TAskEnd (ws : List Int) (o : Int) (tx : ByteArray) (w : World) (e : Ending) (w' : World) : Prop :=
  Below w.heap.size w w' ∧ ((∃ f : Int, (f != 0) = true ∧ e = .returned (.tuple #[.pointer none, .int .i64 f]) ∧ f = (if (checkF ws).1 ≠ 0 then 7 else if tabB ws o = false then 3 else 1) ∧ ((checkF ws).1 ≠ 0 ∨ tabB ws o = false ∨ 60 < tx.size)) ∨
    ((checkF ws).1 = 0 ∧ tabB ws o = true ∧ tx.size ≤ 60 ∧ ∃ T g, e = .returned (.tuple #[.pointer (some ⟨T, 0, none⟩), .int .i64 0]) ∧ Blk w' T 164 #[.pointer (some ⟨g, 0, none⟩), .int .i64 (pcl o : Int)] ∧ ViewAt w' g ws))

set_option maxRecDepth 100000 in
set_option maxHeartbeats 4000000 in
theorem asked_tab (ws : List Int) (o : Int) (tx : ByteArray) (A : Option Addr) (c : Nat) (w : World) (hA : Ints w A ws) (hcap : ws.length ≤ c) (hw : I64 ws) (hl : ws.length ≤ 9223372036854775807) (h1 : -9223372036854775808 ≤ o) (h2 : o ≤ 9223372036854775807) (hs : tx.size ≤ 9223372036854775807) :
    Calls Try.prog 133 #[.agg #[.slice A ws.length c], .int .i64 o, .string tx] w (TAskEnd ws o tx w) := by
  have hx0 : Below w.heap.size w (w.alloc (.cells #[.slice A ws.length c] 33)) := (Below.refl _ _).alloc (Nat.le_refl _) _
  have HX0 := Lib.hid hx0
  have HA := Lib.hid (hA.below hx0); have HW := Lib.hid hw
  have hwn : IntKind.i64.wrap ((tx.size : Nat) : Int) = ((tx.size : Nat) : Int) := IntWalk.i64_in _ (by omega)
  clear hx0 hA hw
  go_enter Try.func133, Try.ntmps133
  go_wp2_with fail
  generalize (w.alloc (.cells #[.slice A ws.length c] 33)) = w1 at *
  refine (tsee_any ws o A c w1 HA.out hcap HW.out hl h1 h2).mono ?_
  rintro e w2 ⟨hb2, h⟩
  have HX2 := Lib.hid (HX0.out.trans (hb2.mono HX0.out.size))
  clear hb2
  rcases h with ⟨h0, rfl⟩ | ⟨h0, ht, rfl⟩ | ⟨h0, ht, T, g, rfl, hT, hv⟩
  · have H0 := Lib.hid h0
    clear h0
    go_wp2_with fail
    refine bodyPost_ret (v := .tuple #[.pointer none, .int .i64 7]) (by simp [results, Try.results133, go_sem]) rfl ⟨HX2.out, .inl ⟨7, rfl, rfl, by rw [if_pos H0.out], .inl H0.out⟩⟩
  · have H0 := Lib.hid h0; have HT := Lib.hid ht
    clear h0 ht
    go_wp2_with fail
    refine bodyPost_ret (v := .tuple #[.pointer none, .int .i64 3]) (by simp [results, Try.results133, go_sem]) rfl ⟨HX2.out, .inl ⟨3, rfl, rfl, by rw [if_neg (not_not_intro H0.out), if_pos HT.out], .inr (.inl HT.out)⟩⟩
  · have H0 := Lib.hid h0; have HT := Lib.hid ht; have HB := Lib.hid hT; have HV := Lib.hid hv
    clear h0 ht hT hv
    by_cases hz : tx.size ≤ 60
    · go_wp2_with fail
      refine bodyPost_ret (v := .tuple #[.pointer (some ⟨T, 0, none⟩), .int .i64 0]) (by simp [results, Try.results133, go_sem]) rfl ⟨HX2.out, .inr ⟨H0.out, HT.out, hz, T, g, rfl, HB.out, HV.out⟩⟩
    · go_wp2_with fail
      refine bodyPost_ret (v := .tuple #[.pointer none, .int .i64 1]) (by simp [results, Try.results133, go_sem]) rfl ⟨HX2.out, .inl ⟨1, rfl, rfl, by rw [if_neg (not_not_intro H0.out), if_neg (by rw [HT.out]; decide)], .inr (.inr (by omega))⟩⟩

theorem seatFrom_range {ws : List Int} {tx : ByteArray} {p : Nat} (hn : 0 < slotsN ws p) : ∀ (k j : Nat), seatFrom ws tx p j k = -1 ∨ ∃ q : Nat, q < slotsN ws p ∧ seatFrom ws tx p j k = (q : Int) ∧ hitB ws tx (nth (slotsL ws p) q) = true
  | 0, _ => .inl rfl
  | k + 1, j => by
    rw [seatFrom_succ]
    by_cases h : hitB ws tx (nth (slotsL ws p) (atN tx (slotsN ws p) j)) = true
    · rw [if_pos h]; exact .inr ⟨_, Nat.mod_lt _ hn, rfl, h⟩
    · rw [if_neg h]; exact seatFrom_range hn k (j + 1)
theorem seatF_range {ws : List Int} {tx : ByteArray} {p : Nat} (hn : 0 < slotsN ws p) : seatF ws tx p = -1 ∨ ∃ q : Nat, q < slotsN ws p ∧ seatF ws tx p = (q : Int) ∧ hitB ws tx (nth (slotsL ws p) q) = true := seatFrom_range hn _ _
/-- Find, of a table. -/
def findT (ws : List Int) (o : Int) (tx : ByteArray) : Int × Int :=
  if seatF ws tx (pcl o) < 0 ∨ nth (slotsL ws (pcl o)) (seatF ws tx (pcl o)).toNat = 0 then (0, 10) else (nth (slotsL ws (pcl o)) (seatF ws tx (pcl o)).toNat, 0)
/-- What asking says. -/
def askE (ws : List Int) (o : Int) (tx : ByteArray) : Int := if (checkF ws).1 ≠ 0 then 7 else if tabB ws o = false then 3 else if 60 < tx.size then 1 else 0
def findF (ws : List Int) (o : Int) (tx : ByteArray) : Int × Int := if askE ws o tx = 0 then findT ws o tx else (0, askE ws o tx)
theorem askE_bad {ws : List Int} {o : Int} {tx : ByteArray} {f : Int} (hf : f = (if (checkF ws).1 ≠ 0 then 7 else if tabB ws o = false then 3 else 1)) (h : (checkF ws).1 ≠ 0 ∨ tabB ws o = false ∨ 60 < tx.size) : askE ws o tx = f ∧ f ≠ 0 := by
  unfold askE
  by_cases h1 : (checkF ws).1 ≠ 0
  · rw [if_pos h1] at hf ⊢; subst hf; exact ⟨rfl, by decide⟩
  · rw [if_neg h1] at hf ⊢
    by_cases h2 : tabB ws o = false
    · rw [if_pos h2] at hf ⊢; subst hf; exact ⟨rfl, by decide⟩
    · rw [if_neg h2] at hf ⊢
      rw [if_pos (by rcases h with h | h | h; exact absurd h h1; exact absurd h h2; exact h)]; subst hf; exact ⟨rfl, by decide⟩
theorem askE_good {ws : List Int} {o : Int} {tx : ByteArray} (h1 : (checkF ws).1 = 0) (h2 : tabB ws o = true) (h3 : tx.size ≤ 60) : askE ws o tx = 0 := by
  unfold askE
  rw [if_neg (not_not_intro h1), if_neg (by rw [h2]; decide), if_neg (by omega)]

/-- What the walk reads of a table: its slots, in a view. -/
theorem tab_reads {ws : List Int} {o : Int} {w : World} {g : Nat} (hv : ViewAt w g ws) (hok : OkH ws) (hwi : I64 ws) (htab : tabB ws o = true) :
    ∃ b q c, b < w.heap.size ∧ (∀ m, Calls Try.prog 98 #[.pointer (some ⟨g, 0, none⟩), .int .i64 (pcl o : Int)] (w.drewN m) fun e w' => e = .returned (.slice (some ⟨b, q, none⟩) (slotsN ws (pcl o)) c) ∧ ∃ m', w' = (w.drewN m).drewN m') ∧
      ∀ j, j < slotsN ws (pcl o) → w.cell? ⟨b, q + j, none⟩ = some (.int .i64 (nth (slotsL ws (pcl o)) j)) := by
  obtain ⟨hth, hfm, hsl⟩ := tab_parts htab
  obtain ⟨hm, -, -, -⟩ := isTh_mem hth
  obtain ⟨-, -, hpb⟩ := places_mem (q := pcl o) hm
  obtain ⟨b, q, c, M, n, ff, A, oc, hg, hlt, hblk, hc, hr, hmm, hfi, hi⟩ := hv.at_
  have hq1 : ws.length ≤ 2000 := hok.most
  have hne := slotsA_ne b q c (pcl o) (by have := not_bad hpb; unfold slotsN at hsl; omega)
  have hsi := ints_slots hr hlt hpb hc
  rw [hne] at hsi
  have hlen := slotsL_len hpb
  obtain ⟨b', o', e', -, hsi⟩ := hsi (by omega)
  cases e'
  refine ⟨b, q + (pcl o + 3), c - (pcl o + 3), hlt, fun m => ?_, fun j hj => hsi j (by omega)⟩
  have := slots_any ws g b q c (pcl o) (w.drewN m) (cell_of_row w g 0 _ 112 (0, 0) hblk) (Row_drewN hr m) hwi (by omega) hpb hc
  rwa [hne] at this

set_option maxRecDepth 100000 in
set_option maxHeartbeats 4000000 in
theorem find_any (ws : List Int) (o : Int) (tx : ByteArray) (A : Option Addr) (c : Nat) (w : World) (hA : Ints w A ws) (hcap : ws.length ≤ c) (hw : I64 ws) (hl : ws.length ≤ 9223372036854775807) (h1 : -9223372036854775808 ≤ o) (h2 : o ≤ 9223372036854775807) (hs : tx.size ≤ 9223372036854775807) :
    Calls Try.prog 76 #[.agg #[.slice A ws.length c], .int .i64 o, .string tx] w fun e w' => e = .returned (.tuple #[.int .i64 (findF ws o tx).1, .int .i64 (findF ws o tx).2]) ∧ Below w.heap.size w w' := by
  have hx0 : Below w.heap.size w (w.alloc (.cells #[.slice A ws.length c] 33)) := (Below.refl _ _).alloc (Nat.le_refl _) _
  have HX0 := Lib.hid hx0
  have HA := Lib.hid (hA.below hx0); have HW := Lib.hid hw
  clear hx0 hA hw
  go_enter Try.func76, Try.ntmps76
  go_wp2_with fail
  generalize (w.alloc (.cells #[.slice A ws.length c] 33)) = w1 at *
  refine (asked_tab ws o tx A c w1 HA.out hcap HW.out hl h1 h2 hs).mono ?_
  rintro e w2 ⟨hb2, h⟩
  have HX2 := Lib.hid (HX0.out.trans (hb2.mono HX0.out.size))
  clear hb2
  rcases h with ⟨f, hf0, rfl, hff, hbad⟩ | ⟨h0, ht, hz, T, g, rfl, hT, hv⟩
  · have HE : Hid ((findF ws o tx).1 = 0 ∧ (findF ws o tx).2 = f) := by
      show _ ∧ _
      obtain ⟨e1, e2⟩ := askE_bad hff hbad
      unfold findF
      rw [if_neg (by rw [e1]; exact e2)]; exact ⟨rfl, e1⟩
    clear hff hbad
    go_wp2_with fail
    refine bodyPost_ret (v := .tuple #[.int .i64 0, .int .i64 f]) (by simp [results, Try.results76, go_sem]) rfl ⟨by rw [HE.out.1, HE.out.2], HX2.out⟩
  · have hok : OkH ws := okB_iff.1 (by unfold okB; simp [h0])
    have HE : Hid (findF ws o tx = findT ws o tx) := by
      show _ = _
      unfold findF
      rw [if_pos (askE_good h0 ht hz)]
    have HT := Lib.hid ht; have HB := Lib.hid hT; have HV := Lib.hid hv; have HOK := Lib.hid hok
    have hsl := (tab_parts ht).2.2
    clear h0 ht hT hv hok
    go_wp2_with fail
    refine (seat_any ws tx o T g w2 HOK.out HW.out hz HT.out HB.out HV.out).mono ?_
    rintro e w4 ⟨rfl, hb4⟩
    have HX4 := Lib.hid (HX2.out.trans (hb4.mono HX2.out.size))
    obtain ⟨t1, t2, -, -, -⟩ := (HB.out.below hb4 HB.out.lt).f2
    obtain ⟨b, q, cs, hlt, hcl, hcs⟩ := tab_reads (HV.out.below hb4) HOK.out HW.out HT.out
    have HCL := Lib.hid hcl
    have hrg := seatF_range (ws := ws) (tx := tx) (p := pcl o) hsl
    have HFT : Hid (findT ws o tx = if seatF ws tx (pcl o) < 0 ∨ nth (slotsL ws (pcl o)) (seatF ws tx (pcl o)).toNat = 0 then (0, 10) else (nth (slotsL ws (pcl o)) (seatF ws tx (pcl o)).toNat, 0)) := rfl
    rcases hrg with e0 | ⟨k, hk, e0, -⟩
    · rw [e0] at HFT ⊢
      have HFE : Hid (findF ws o tx = (0, 10)) := by show _ = _; rw [HE.out, HFT.out]; rfl
      clear HFT HE e0 hb4 hcl hcs
      go_wp2_with fail
      go_quiet (fail)
      go_wp2_with fail
      refine bodyPost_ret (v := .tuple #[.int .i64 0, .int .i64 10]) (by simp [results, Try.results76, go_sem]) rfl ⟨by rw [HFE.out], HX4.out.trans (belowN _ _ _)⟩
    · have e1 := hcs k hk
      rw [e0, Int.toNat_natCast] at HFT
      rw [e0]
      have hwk : IntKind.i64.wrap ((k : Nat) : Int) = ((k : Nat) : Int) := IntWalk.i64_in _ (by have := not_bad (places_mem (q := pcl o) (isTh_mem (tab_parts HT.out).1).1).2.2; unfold slotsN at hk; omega)
      generalize nth (slotsL ws (pcl o)) k = s at *
      clear e0 hb4 hcl hcs
      by_cases hs0 : s = 0
      · have HFE : Hid (findF ws o tx = (0, 10)) := by show _ = _; rw [HE.out, HFT.out, if_pos (.inr hs0)]
        subst hs0
        clear HFT HE
        go_wp2_with fail
        go_quiet ((go_at_call 98; exact quiet_draws (HCL.out _)))
        go_wp2_with fail
        refine bodyPost_ret (v := .tuple #[.int .i64 0, .int .i64 10]) (by simp [results, Try.results76, go_sem]) rfl ⟨by rw [HFE.out], HX4.out.trans (belowN _ _ _)⟩
      · have HFE : Hid (findF ws o tx = (s, 0)) := by show _ = _; rw [HE.out, HFT.out, if_neg (by rintro (h | h); omega; exact hs0 h)]
        have hsb : (s == 0) = false := by simpa using hs0
        clear HFT HE
        go_wp2_with fail
        go_quiet ((go_at_call 98; exact quiet_draws (HCL.out _)))
        go_wp2_with fail
        have HC5 : Hid (∀ m, Calls Try.prog 98 #[.pointer (some ⟨g, 0, none⟩), .int .i64 (pcl o : Int)] ((w4.drewN nq).drewN m) fun e w' => e = .returned (.slice (some ⟨b, q, none⟩) (slotsN ws (pcl o)) cs) ∧ ∃ m', w' = ((w4.drewN nq).drewN m).drewN m') := fun m => by
          have := HCL.out (nq + m)
          rwa [← World.drewN_drewN] at this
        have t15 : (w4.drewN nq).cell? ⟨T, 0, none⟩ = some (.pointer (some ⟨g, 0, none⟩)) := t1
        have t25 : (w4.drewN nq).cell? ⟨T, 1, none⟩ = some (.int .i64 (pcl o : Int)) := t2
        have e15 : (w4.drewN nq).cell? ⟨b, q + k, none⟩ = some (.int .i64 s) := e1
        have HX5 := Lib.hid (HX4.out.trans (belowN _ _ nq))
        clear HCL t1 t2 e1 hlt HX4 HX2
        generalize w4.drewN nq = w5 at *
        go_quiet ((go_at_call 98; exact quiet_draws (HC5.out _)))
        go_wp2_with fail
        refine bodyPost_ret (v := .tuple #[.int .i64 s, .int .i64 0]) (by simp [results, Try.results76, go_sem]) rfl ⟨by rw [HFE.out], HX5.out.trans (belowN _ _ _)⟩
end Go.Proofs.Ytjpppdacamhhfaa
