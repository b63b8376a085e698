/- The document's Move, and what it copies, compute the moved words. Conditions: a heap that may be, references that fit. -/
import Derived.Test.YtjpppdacamhhfaaMover
import Derived.Test.YtjpppdacamhhfaaMSpec2
import Derived.Test.YtjpppdacamhhfaaDone
import Derived.Test.YtjpppdacamhhfaaVast
import Derived.Test.YtjpppdacamhhfaaRCheck

namespace Go.Proofs.Ytjpppdacamhhfaa
open Go.RowKit
set_option linter.unusedVariables false

/-- What the document's move has in memory: where things went; the words so far. -/
structure RM (w : World) (F GT cT : Nat) (ws : List Int) (ord : List Nat) (xs : List Int) (v : Value) : Prop where
  tos : Own w F (.slice (some ⟨GT, 0, none⟩) ws.length cT) (tosL ws ord ws.length)
  out : Own w F v xs
  len : xs.length = endO ws ord 2
  far : ∀ k, v.ownBlock = some k → k ≠ GT
  size : F ≤ w.heap.size
def CopyEnd (F GT cT : Nat) (ws : List Int) (ord : List Nat) (xs : List Int) (v : Value) (o : Int) (w : World) (e : Ending) (w' : World) : Prop :=
  ∃ v', e = .returned v' ∧ RM w' F GT cT ws (visit ord o) (pushL ws ord o xs) v' ∧ Turned w w' (fun k => k = GT ∨ v.ownBlock = some k)

set_option maxRecDepth 100000 in
set_option maxHeartbeats 4000000 in
theorem copy_any (ws : List Int) (b o' c F GT cT : Nat) (ord : List Nat) (xs : List Int) (v : Value) (o : Int) (w : World) (hr : Row w b o' ws) (hb : b < w.heap.size) (hbF : ∀ W, Below F w W → Row W b o' ws) (hcap : ws.length ≤ c) (hM : RM w F GT cT ws ord xs v)
    (hok : OkH ws) (hw : I64 ws) (hn : Ordr ws ord) (ho : fitsB ws o = true) :
    Calls Try.prog 103 #[.slice (some ⟨b, o', none⟩) ws.length c, .slice (some ⟨GT, 0, none⟩) ws.length cT, v, .int .i64 o] w (CopyEnd F GT cT ws ord xs v o w) := by
  obtain ⟨x1, x2⟩ := fits_bd ho
  by_cases hk : kd o = 3
  · have hpl := fits_pl ho hk
    obtain ⟨p1, p2, p3⟩ := places_mem hpl
    obtain ⟨m1, m2, m3, m4, m5⟩ := not_bad p3
    have hq2 : ws.length ≤ 2000 := hok.most
    obtain ⟨q0, q1, q2⟩ := (kd_three o).1 hk
    have e2 : o / 2 = ((pcl o : Nat) : Int) := by unfold pcl; omega
    have hkb : (kd o != 3) = false := by simpa using hk
    have hct := hM.tos.cell (pcl o) (by rw [tosL_len]; exact p2)
    rw [tosL_nth p2] at hct
    have hft := hM.tos.frz (pcl o)
    have hsm := toO_small hok hn.nodup hn.pl (pcl o)
    by_cases hp : pcl o ∈ ord
    · have hvis : visit ord o = ord := by unfold visit; rw [if_neg (fun e => e.2 hp)]
      have hpx : pushL ws ord o xs = xs := by unfold pushL; rw [if_neg (fun e => e.2 hp)]
      have hpos : 0 < toO ws ord (pcl o) := by
        have := offO_in ws ord 2 hp
        unfold toO; omega
      have hposI : (0 : Int) < (toO ws ord (pcl o) : Int) := by omega
      have HV := Lib.hid hvis; have HX := Lib.hid hpx; have HM := Lib.hid hM
      clear hr hbF hM hok hw hn ho hk hp p3 q0 hvis hpx hpl
      go_enter Try.func103, Try.ntmps103
      go_wp2_with (go_at_call 34; refine (rkind_any _ _ (by omega) (by omega)).mono ?_; rintro e w' ⟨rfl, rfl⟩)
      refine bodyPost_ret (v := v) (by simp [results, Try.results103, go_sem]) rfl ?_
      unfold CopyEnd
      rw [HV.out, HX.out]
      exact ⟨v, rfl, HM.out, Turned.refl _ _⟩
    · have hvis : visit ord o = ord ++ [pcl o] := by unfold visit; rw [if_pos ⟨hk, hp⟩]
      have hpx : pushL ws ord o xs = xs ++ rawL ws (pcl o) := by unfold pushL; rw [if_pos ⟨hk, hp⟩]
      have hz0 : toO ws ord (pcl o) = 0 := to_out hp
      rw [hz0] at hct
      obtain ⟨A, nv, cv, rfl, hnv, hcv, -⟩ := hM.out.form3
      have hne : nv = endO ws ord 2 := hnv.trans hM.len
      have hes := endO_small hok hn.nodup hn.pl
      have hraw := rawL_len p3
      have hto := hM.tos.put (pcl o) (nv : Nat)
      rw [hne, tosL_set hp p2, ← hne] at hto
      have hGT := hM.tos.block
      have hout2 : Own (w.setCell ⟨GT, pcl o, none⟩ (.int .i64 (nv : Nat))) F (.slice A nv cv) xs := hM.out.setCell _ (fun e => hM.far GT e rfl) _
      have hrow2 : Row (w.setCell ⟨GT, pcl o, none⟩ (.int .i64 (nv : Nat))) b o' ws := hbF _ ((Below.refl _ _).setCell hGT.1 _)
      have ht2 : Turned w (w.setCell ⟨GT, pcl o, none⟩ (.int .i64 (nv : Nat))) (fun k => k = GT ∨ (Value.slice A nv cv).ownBlock = some k) := (Turned.refl _ _).setCell (.inl (.inl rfl)) _
      have hsz2 : (w.setCell ⟨GT, pcl o, none⟩ (.int .i64 (nv : Nat))).heap.size = w.heap.size := by simp [World.setCell]
      have hc2 := hrow2 (pcl o + 2) (by omega)
      have hrawI : Ints (w.setCell ⟨GT, pcl o, none⟩ (.int .i64 (nv : Nat))) (some ⟨b, o' + pcl o, none⟩) (rawL ws (pcl o)) := fun _ => ⟨b, o' + pcl o, rfl, by rw [hsz2]; exact hb, fun j hj => by
        rw [hraw] at hj
        have hd : szT ws (pcl o) = 3 + slotsN ws (pcl o) := rfl
        have hd2 : slotsN ws (pcl o) = (nth ws (pcl o + 2) / 4).toNat := rfl
        rw [rawL_nth hj, Nat.add_assoc]
        exact hrow2 (pcl o + j) (by omega)⟩
      have hl4 : xs.length + (rawL ws (pcl o)).length ≤ 1000000000 := by
        have hd : szT ws (pcl o) = 3 + slotsN ws (pcl o) := rfl
        have hd2 : slotsN ws (pcl o) = (nth ws (pcl o + 2) / 4).toNat := rfl
        omega
      have hz4 : F ≤ (w.setCell ⟨GT, pcl o, none⟩ (.int .i64 (nv : Nat))).heap.size := by rw [hsz2]; exact hM.size
      have hval : Value.slice (some ⟨b, o' + pcl o, none⟩) ((((pcl o : Nat) : Int) + 3 + nth ws (pcl o + 2) / 4).toNat - pcl o) (c - pcl o) = Value.slice (some ⟨b, o' + pcl o, none⟩) (rawL ws (pcl o)).length (c - pcl o) := by
        have hd : szT ws (pcl o) = 3 + slotsN ws (pcl o) := rfl
        have hd2 : slotsN ws (pcl o) = (nth ws (pcl o + 2) / 4).toNat := rfl
        rw [hraw]
        congr 1
        omega
      have hlenE : endO ws (ord ++ [pcl o]) 2 = endO ws ord 2 + szT ws (pcl o) := endO_snoc ws _ _ _
      have HV := Lib.hid hvis; have HX := Lib.hid hpx; have HNE := Lib.hid hne; have HNV := Lib.hid hnv; have HM := Lib.hid hM; have HTO := Lib.hid hto; have HOUT2 := Lib.hid hout2; have HT2 := Lib.hid ht2; have HRAWI := Lib.hid hrawI; have HVAL := Lib.hid hval; have HRAW := Lib.hid hraw; have HLENE := Lib.hid hlenE; have HSZ2 := Lib.hid hsz2
      obtain ⟨t1, t2⟩ := hw (pcl o + 2)
      have d1 : 0 ≤ ((pcl o : Nat) : Int) := by omega
      have d3 : ((pcl o : Nat) : Int) + 3 + nth ws (pcl o + 2) / 4 ≤ (c : Int) := by omega
      have d4 : ¬ c = pcl o := by omega
      have hnvb : nv ≤ 2000 := by omega
      clear hr hbF hM hok hw hn ho hk hp p3 q0 hvis hpx hpl hz0 hne hnv hto hout2 hrow2 ht2 hrawI hval hraw hlenE hsz2 hsm
      go_enter Try.func103, Try.ntmps103
      go_wp2_with (first
        | (go_at_call 34; refine (rkind_any _ _ (by omega) (by omega)).mono ?_; rintro e w' ⟨rfl, rfl⟩)
        | (at_builtin; refine wpList_joinM rfl _ _ rfl F (.slice A nv cv) xs rfl HOUT2.out (some ⟨b, o' + pcl o, none⟩) _ (rawL ws (pcl o)) HVAL.out HRAWI.out hl4 hz4 ?_; intro A4 n4 c4 w4 hown4 hgr4 hat4; have HO4 := Lib.hid hown4; have HG4 := Lib.hid hgr4; have HA4 := Lib.hid hat4; clear hown4 hgr4 hat4))
      refine bodyPost_ret (v := .slice A4 n4 c4) (by simp [results, Try.results103, go_sem]) rfl ?_
      unfold CopyEnd
      rw [HV.out, HX.out]
      refine ⟨_, rfl, ⟨HTO.out.grown HG4.out ?_, HO4.out, ?_, ?_, Nat.le_trans hz4 HG4.out.size⟩, HT2.out.grown HG4.out (fun k e => .inl (.inr e))⟩
      · exact .inr (fun e => HM.out.far GT e.symm rfl)
      · rw [List.length_append, HRAW.out, HLENE.out]
        have h1 := HNV.out; have h2 := HNE.out
        omega
      · intro k e
        rcases HA4.out k e with h1 | h1
        · exact HM.out.far k h1
        · have := HSZ2.out; have := HM.out.tos.block.2; omega
  · have hvis : visit ord o = ord := by unfold visit; rw [if_neg (fun e => hk e.1)]
    have hpx : pushL ws ord o xs = xs := by unfold pushL; rw [if_neg (fun e => hk e.1)]
    have hkb : (kd o != 3) = true := by simpa using hk
    have HV := Lib.hid hvis; have HX := Lib.hid hpx; have HM := Lib.hid hM
    clear hr hbF hM hok hw hn ho hk hvis hpx
    go_enter Try.func103, Try.ntmps103
    go_wp2_with (go_at_call 34; refine (rkind_any _ _ (by omega) (by omega)).mono ?_; rintro e w' ⟨rfl, rfl⟩)
    refine bodyPost_ret (v := v) (by simp [results, Try.results103, go_sem]) rfl ?_
    unfold CopyEnd
    rw [HV.out, HX.out]
    exact ⟨v, rfl, HM.out, Turned.refl _ _⟩
end Go.Proofs.Ytjpppdacamhhfaa
