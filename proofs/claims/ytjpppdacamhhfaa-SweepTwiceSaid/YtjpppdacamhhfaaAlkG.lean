/- reach.Alike: whether what is reached from some roots is alike, or what is wrong. Conditions: the words are numbers of 64 bits. -/
import Derived.Test.YtjpppdacamhhfaaAlkE
import Derived.Test.YtjpppdacamhhfaaRng
import Derived.Test.YtjpppdacamhhfaaRoots
import Derived.Laws.EntriesVeiled
namespace Go.Proofs.Ytjpppdacamhhfaa
open Go.RowKit
set_option linter.unusedVariables false

/-- How reach.Alike ends. -/
def AlikeTold (ws rs vs qs : List Int) (w : World) (e : Ending) (w' : World) : Prop :=
  Below w.heap.size w w' ∧ (((rootsF ws rs).1 ≠ 0 ∧ e = .returned (.tuple #[.bool false, fltV (rootsF ws rs).1 (rootsF ws rs).2])) ∨
    ((rootsF ws rs).1 = 0 ∧ (rootsF vs qs).1 ≠ 0 ∧ e = .returned (.tuple #[.bool false, fltV (rootsF vs qs).1 (rootsF vs qs).2])) ∨
    ((rootsF ws rs).1 = 0 ∧ (rootsF vs qs).1 = 0 ∧ ∃ f g, Tells ws rs f ∧ Tells vs qs g ∧ e = .returned (.tuple #[.bool (alikeR ws rs f vs qs g), fltV 0 0])))

theorem sideV_of {w4 w8 : World} {S : Nat → Prop} {ga : Nat} {ws : List Int} (hv : ViewAt w4 ga ws) (ht : ∀ W, Turned w8 W S → Below w4.heap.size w4 W) (hok : OkH ws) (hw : I64 ws) : ∃ b o c, SideV S w8 ga b o c ws := by
  obtain ⟨b, o, c, M, A, oc, v0, -, -, hg, hb, hcc, hrow, -⟩ := hv.cells
  exact ⟨b, o, c, fun W h => ((ht W h).cell (p := ⟨ga, 0, none⟩) hg).trans v0, fun W h => ⟨hrow.below (ht W h) hb, Nat.lt_of_lt_of_le hb (ht W h).size⟩, fun W h => hv.below (ht W h), hcc, hok, hw⟩

set_option maxRecDepth 100000 in
set_option maxHeartbeats 8000000 in
theorem alike2_any (ws rs vs qs : List Int) (A B A' B' : Option Addr) (c d c' d' : Nat) (w : World) (hA : Ints w A ws) (hcap : ws.length ≤ c) (hw : I64 ws) (hl : ws.length ≤ 9223372036854775807)
    (hB : Ints w B rs) (hr : I64 rs) (hrl : rs.length ≤ 1000000) (hA' : Ints w A' vs) (hcap' : vs.length ≤ c') (hw' : I64 vs) (hl' : vs.length ≤ 9223372036854775807)
    (hB' : Ints w B' qs) (hr' : I64 qs) (hrl' : qs.length ≤ 1000000) :
    Calls Try.prog 74 #[.agg #[.slice A ws.length c], .slice B rs.length d, .agg #[.slice A' vs.length c'], .slice B' qs.length d'] w (AlikeTold ws rs vs qs w) := by
  have hx0 : Below w.heap.size w (((w.alloc (.cells #[.slice A ws.length c] 33)).alloc (.cells #[.slice A' vs.length c'] 33)).alloc (.cells #[.int .i64 0, .int .i64 0] 36)) := (((Below.refl _ _).alloc (Nat.le_refl _) _).alloc (by simp) _).alloc (by simp; omega) _
  have hh0 : Blk (((w.alloc (.cells #[.slice A ws.length c] 33)).alloc (.cells #[.slice A' vs.length c'] 33)).alloc (.cells #[.int .i64 0, .int .i64 0] 36)) w.heap.size 33 #[.slice A ws.length c] := ((Blk.new _ _ _).alloc _).alloc _
  have hk0 : Blk (((w.alloc (.cells #[.slice A ws.length c] 33)).alloc (.cells #[.slice A' vs.length c'] 33)).alloc (.cells #[.int .i64 0, .int .i64 0] 36)) (w.heap.size + 1) 33 #[.slice A' vs.length c'] := by
    have := (Blk.new (w.alloc (.cells #[.slice A ws.length c] 33)) 33 #[.slice A' vs.length c']).alloc (.cells #[.int .i64 0, .int .i64 0] 36)
    rwa [World.size_alloc] at this
  have hr2 : Blk (((w.alloc (.cells #[.slice A ws.length c] 33)).alloc (.cells #[.slice A' vs.length c'] 33)).alloc (.cells #[.int .i64 0, .int .i64 0] 36)) (w.heap.size + 1 + 1) 36 #[.int .i64 0, .int .i64 0] := by
    have := Blk.new ((w.alloc (.cells #[.slice A ws.length c] 33)).alloc (.cells #[.slice A' vs.length c'] 33)) 36 #[.int .i64 0, .int .i64 0]
    rwa [World.size_alloc, World.size_alloc] at this
  have HX0 := Lib.hid hx0; have HH0 := Lib.hid hh0; have HK0 := Lib.hid hk0; have HR2 := Lib.hid hr2
  have HA := Lib.hid (hA.below hx0); have HB := Lib.hid (hB.below hx0); have HA' := Lib.hid (hA'.below hx0); have HB' := Lib.hid (hB'.below hx0)
  have HW := Lib.hid hw; have HRW := Lib.hid hr; have HW' := Lib.hid hw'; have HRW' := Lib.hid hr'
  clear hx0 hh0 hk0 hr2 hA hB hw hr hA' hB' hw' hr'
  go_enter Try.func74, Try.ntmps74
  go_wp2_with fail
  generalize hw1 : (((w.alloc (.cells #[.slice A ws.length c] 33)).alloc (.cells #[.slice A' vs.length c'] 33)).alloc (.cells #[.int .i64 0, .int .i64 0] 36)) = w1 at *
  clear hw1
  refine (rsee_any ws rs A B c d w1 HA.out hcap HW.out hl HB.out HRW.out (by omega)).mono ?_
  rintro e w2 ⟨hb2, h⟩
  have HX2 := Lib.hid (HX0.out.trans (hb2.mono HX0.out.size))
  have HR22 := Lib.hid (HR2.out.below hb2 HR2.out.lt); have HH2 := Lib.hid (HH0.out.below hb2 HH0.out.lt); have HK2 := Lib.hid (HK0.out.below hb2 HK0.out.lt)
  have HB2 := Lib.hid (HB.out.below hb2); have HA2' := Lib.hid (HA'.out.below hb2); have HB2' := Lib.hid (HB'.out.below hb2)
  have hRlt : w.heap.size + 1 + 1 < w2.heap.size := HR22.out.lt
  clear hb2 HA HB HA' HB' HX0 HR2 HH0 HK0
  obtain ⟨z1, z2, z3, z4, z5⟩ := HR22.out.f2
  rcases h with ⟨h0, rfl⟩ | ⟨h0, ga, rfl, hv⟩
  · have h1 : ((rootsF ws rs).1 != 0) = true := by simpa using h0
    have HN := Lib.hid h0
    clear h0
    have hf3 : Blk (w2.alloc (.cells #[.int .i64 (rootsF ws rs).1, .int .i64 (rootsF ws rs).2] 36)) w2.heap.size 36 #[.int .i64 (rootsF ws rs).1, .int .i64 (rootsF ws rs).2] := Blk.new _ _ _
    have HF3 := Lib.hid hf3
    have HR3 := Lib.hid (HR22.out.alloc (.cells #[.int .i64 (rootsF ws rs).1, .int .i64 (rootsF ws rs).2] 36))
    have HL3 := Lib.hid (HX2.out.alloc (by omega) (.cells #[.int .i64 (rootsF ws rs).1, .int .i64 (rootsF ws rs).2] 36))
    clear z1 z2 z3 z4 z5 hf3
    unfold seeV fltV
    go_wp2_with fail
    generalize (w2.alloc (.cells #[.int .i64 (rootsF ws rs).1, .int .i64 (rootsF ws rs).2] 36)) = w3 at *
    obtain ⟨z1, z2, z3, z4, z5⟩ := HR3.out.f2
    obtain ⟨y1, y2, y3, y4, y5⟩ := HF3.out.f2
    go_region
    all_goals (try go_wp2)
    all_goals
      refine bodyPost_ret (v := .tuple #[.bool false, fltV (rootsF ws rs).1 (rootsF ws rs).2]) (by simp [results, Try.results74, go_sem, fltV, z1, z2]) rfl ⟨?_, .inl ⟨HN.out, rfl⟩⟩
      repeat (first | exact HL3.out | refine Below.drew ?_ | refine Below.setCell ?_ (by dsimp only; omega) _)
  obtain ⟨hokh, -, -, hfit, hz⟩ := rootsF_zero h0
  have HV := Lib.hid hv; have HOK := Lib.hid hokh; have HFIT := Lib.hid hfit; have HZ := Lib.hid hz; have HZA := Lib.hid h0
  have hq1 : ws.length ≤ 2000 := hokh.most
  clear hv hokh hz h0 hfit z1 z2 z3 z4 z5
  have hx3 : Below w2.heap.size w2 (w2.alloc (.cells #[.int .i64 0, .int .i64 0] 36)) := (Below.refl _ _).alloc (Nat.le_refl _) _
  have HF3 := Lib.hid (Blk.new w2 36 #[.int .i64 0, .int .i64 0])
  have HX3 := Lib.hid (HX2.out.trans (hx3.mono HX2.out.size))
  have HR3 := Lib.hid (HR22.out.below hx3 HR22.out.lt); have HK3 := Lib.hid (HK2.out.below hx3 HK2.out.lt)
  have HB3 := Lib.hid (HB2.out.below hx3); have HV3 := Lib.hid (HV.out.below hx3); have HA3' := Lib.hid (HA2'.out.below hx3); have HB3' := Lib.hid (HB2'.out.below hx3)
  obtain ⟨x1, x2, x3⟩ := HK2.out.f1
  have hs3 : w2.heap.size < (w2.alloc (.cells #[.int .i64 0, .int .i64 0] 36)).heap.size := by simp
  clear hx3 HB2 HV HA2' HB2' HR22 HX2 HH2 HK2
  unfold fltV
  go_wp2_with fail
  generalize hw3 : (w2.alloc (.cells #[.int .i64 0, .int .i64 0] 36)) = w3 at *
  clear hw3 x1 x2 x3
  generalize hF : w2.heap.size = F at *
  clear hF
  refine (rsee_any vs qs A' B' c' d' w3 HA3'.out hcap' HW'.out hl' HB3'.out HRW'.out (by omega)).mono ?_
  rintro e w4 ⟨hb4, h⟩
  have HX4 := Lib.hid (HX3.out.trans (hb4.mono HX3.out.size))
  have HR4 := Lib.hid (HR3.out.below hb4 HR3.out.lt); have HF4 := Lib.hid (HF3.out.below hb4 HF3.out.lt)
  have HB4 := Lib.hid (HB3.out.below hb4); have HV4 := Lib.hid (HV3.out.below hb4); have HB4' := Lib.hid (HB3'.out.below hb4)
  clear hb4 HB3 HV3 HB3' HR3 HF3 HX3 HA3' HK3
  obtain ⟨y1, y2, y3, y4, y5⟩ := HF4.out.f2
  rcases h with ⟨h0, rfl⟩ | ⟨h0, gb, rfl, hv⟩
  · have h1 : ((rootsF vs qs).1 != 0) = true := by simpa using h0
    have HN := Lib.hid h0
    clear h0
    have hf5 : Blk ((w4.setCell ⟨F, 0, none⟩ (.int .i64 (rootsF vs qs).1)).setCell ⟨F, 1, none⟩ (.int .i64 (rootsF vs qs).2)) F 36 #[.int .i64 (rootsF vs qs).1, .int .i64 (rootsF vs qs).2] := by
      have := (HF4.out.set_ 0 (.int .i64 (rootsF vs qs).1)).set_ 1 (.int .i64 (rootsF vs qs).2)
      simpa using this
    have hr5 : Blk ((w4.setCell ⟨F, 0, none⟩ (.int .i64 (rootsF vs qs).1)).setCell ⟨F, 1, none⟩ (.int .i64 (rootsF vs qs).2)) (w.heap.size + 1 + 1) 36 #[.int .i64 0, .int .i64 0] := (HR4.out.far (by dsimp only; omega) _).far (by dsimp only; omega) _
    have hx5 : Below w.heap.size w ((w4.setCell ⟨F, 0, none⟩ (.int .i64 (rootsF vs qs).1)).setCell ⟨F, 1, none⟩ (.int .i64 (rootsF vs qs).2)) := (HX4.out.setCell (by dsimp only; omega) _).setCell (by dsimp only; omega) _
    have HF5 := Lib.hid hf5; have HR5 := Lib.hid hr5; have HX5 := Lib.hid hx5
    clear hf5 hr5 hx5
    unfold seeV fltV
    go_wp2_with fail
    generalize ((w4.setCell ⟨F, 0, none⟩ (.int .i64 (rootsF vs qs).1)).setCell ⟨F, 1, none⟩ (.int .i64 (rootsF vs qs).2)) = w5 at *
    clear y1 y2 y3 y4 y5
    obtain ⟨z1, z2, z3, z4, z5⟩ := HR5.out.f2
    obtain ⟨y1, y2, y3, y4, y5⟩ := HF5.out.f2
    go_region
    all_goals (try go_wp2)
    all_goals
      refine bodyPost_ret (v := .tuple #[.bool false, fltV (rootsF vs qs).1 (rootsF vs qs).2]) (by simp [results, Try.results74, go_sem, fltV, z1, z2]) rfl ⟨?_, .inr (.inl ⟨HZA.out, HN.out, rfl⟩)⟩
      repeat (first | exact HX5.out | refine Below.drew ?_ | refine Below.setCell ?_ (by dsimp only; omega) _)
  obtain ⟨hokh, -, -, hfit, hz⟩ := rootsF_zero h0
  have HV4' := Lib.hid hv; have HOK' := Lib.hid hokh; have HFIT' := Lib.hid hfit; have HZB := Lib.hid h0
  have hq2 : vs.length ≤ 2000 := hokh.most
  have s1 : w4.setCell ⟨F, 0, none⟩ (.int .i64 0) = w4 := setCell_same HF4.out rfl
  have s2 : w4.setCell ⟨F, 1, none⟩ (.int .i64 0) = w4 := setCell_same HF4.out rfl
  clear hv hokh hz h0 hfit HZ
  unfold fltV
  have hmm := @run_makeMap Try.prog
  go_wp2_with fail
  clear s1 s2 y1 y2 y3 y4 y5
  refine (seen_any ws rs ga B d w4 HV4.out HOK.out HW.out HB4.out hrl HFIT.out).mono ?_
  rintro e w5 ⟨Sa, na, SA, -, hSA, rfl, hma, hSal, hb5⟩
  have hx6 : Below w4.heap.size w4 (w5.alloc (.map #[] 0)) := hb5.alloc hb5.size _
  have HX46 := Lib.hid hx6
  have HB6' := Lib.hid (HB4'.out.below hx6); have HV6' := Lib.hid (HV4'.out.below hx6)
  have HSA := Lib.hid hSA
  have HMA6 := Lib.hid (hma.alloc (.map #[] 0))
  have HMM6 := Lib.hid (MapI.new w5)
  have hSaw : Sa < w5.heap.size := hma.lt
  have hz6 : (w5.alloc (.map #[] 0)).heap.size = w5.heap.size + 1 := by simp
  have hFlt := HF4.out.lt
  clear hSA hma hb5 hx6
  go_wp2_with fail
  generalize (w5.alloc (.map #[] 0)) = w6 at *
  generalize w5.heap.size = Ma at *
  refine (seen_any vs qs gb B' d' w6 HV6'.out HOK'.out HW'.out HB6'.out hrl' HFIT'.out).mono ?_
  rintro e w7 ⟨Sb, nb, SB, -, hSB, rfl, hmb, hSbl, hb7⟩
  have hSbw : Sb < w7.heap.size := hmb.lt
  have h67 := hb7.size
  have hx8 : Below w6.heap.size w6 (((w7.alloc (.map #[] 0)).alloc (.cells #[.pointer (some ⟨ga, 0, none⟩), .map (some Sa), .map (some Ma), .pointer (some ⟨gb, 0, none⟩), .map (some Sb), .map (some w7.heap.size), .slice none 0 0] 156)).alloc (.cells #[.pointer (some ⟨w7.heap.size + 1, 0, none⟩)] 151)) :=
    ((hb7.alloc h67 _).alloc (by simp; omega) _).alloc (by simp; omega) _
  have HX48 := Lib.hid (HX46.out.trans (hx8.mono HX46.out.size))
  have HMA8 := Lib.hid (HMA6.out.below hx8 HMA6.out.lt); have HMM8 := Lib.hid (HMM6.out.below hx8 HMM6.out.lt)
  have HMB8 := Lib.hid (((hmb.alloc (.map #[] 0)).alloc (.cells #[.pointer (some ⟨ga, 0, none⟩), .map (some Sa), .map (some Ma), .pointer (some ⟨gb, 0, none⟩), .map (some Sb), .map (some w7.heap.size), .slice none 0 0] 156)).alloc (.cells #[.pointer (some ⟨w7.heap.size + 1, 0, none⟩)] 151))
  have HMN8 := Lib.hid (((MapI.new w7).alloc (.cells #[.pointer (some ⟨ga, 0, none⟩), .map (some Sa), .map (some Ma), .pointer (some ⟨gb, 0, none⟩), .map (some Sb), .map (some w7.heap.size), .slice none 0 0] 156)).alloc (.cells #[.pointer (some ⟨w7.heap.size + 1, 0, none⟩)] 151))
  have hp8 : Blk (((w7.alloc (.map #[] 0)).alloc (.cells #[.pointer (some ⟨ga, 0, none⟩), .map (some Sa), .map (some Ma), .pointer (some ⟨gb, 0, none⟩), .map (some Sb), .map (some w7.heap.size), .slice none 0 0] 156)).alloc (.cells #[.pointer (some ⟨w7.heap.size + 1, 0, none⟩)] 151)) (w7.heap.size + 1) 156 #[.pointer (some ⟨ga, 0, none⟩), .map (some Sa), .map (some Ma), .pointer (some ⟨gb, 0, none⟩), .map (some Sb), .map (some w7.heap.size), .slice none 0 0] := by
    have := Blk.new (w7.alloc (.map #[] 0)) 156 #[.pointer (some ⟨ga, 0, none⟩), .map (some Sa), .map (some Ma), .pointer (some ⟨gb, 0, none⟩), .map (some Sb), .map (some w7.heap.size), .slice none 0 0]
    rw [World.size_alloc] at this
    exact this.alloc _
  have ht8 : Blk (((w7.alloc (.map #[] 0)).alloc (.cells #[.pointer (some ⟨ga, 0, none⟩), .map (some Sa), .map (some Ma), .pointer (some ⟨gb, 0, none⟩), .map (some Sb), .map (some w7.heap.size), .slice none 0 0] 156)).alloc (.cells #[.pointer (some ⟨w7.heap.size + 1, 0, none⟩)] 151)) (w7.heap.size + 1 + 1) 151 #[.pointer (some ⟨w7.heap.size + 1, 0, none⟩)] := by
    have := Blk.new ((w7.alloc (.map #[] 0)).alloc (.cells #[.pointer (some ⟨ga, 0, none⟩), .map (some Sa), .map (some Ma), .pointer (some ⟨gb, 0, none⟩), .map (some Sb), .map (some w7.heap.size), .slice none 0 0] 156)) 151 #[.pointer (some ⟨w7.heap.size + 1, 0, none⟩)]
    rw [World.size_alloc, World.size_alloc] at this
    exact this
  have HP8 := Lib.hid hp8; have HT8 := Lib.hid ht8
  have hz8 : Hid ((((w7.alloc (.map #[] 0)).alloc (.cells #[.pointer (some ⟨ga, 0, none⟩), .map (some Sa), .map (some Ma), .pointer (some ⟨gb, 0, none⟩), .map (some Sb), .map (some w7.heap.size), .slice none 0 0] 156)).alloc (.cells #[.pointer (some ⟨w7.heap.size + 1, 0, none⟩)] 151)).heap.size = w7.heap.size + 1 + 1 + 1) := by show _ = _; simp
  have HSB := Lib.hid hSB
  have hMalt := HMM6.out.lt
  clear hSB hmb hb7 hx8 hp8 ht8 HB6' HV6' HMA6 HMM6 HX46
  have hfb : ∀ p, (fun p => decide (p ∈ SA)) p = decide (p ∈ SA) := fun _ => rfl
  have hgb' : ∀ p, (fun p => decide (p ∈ SB)) p = decide (p ∈ SB) := fun _ => rfl
  have hta : Tells ws rs (fun p => decide (p ∈ SA)) := fun p => by rw [decide_eq_true_eq]; exact HSA.out p
  have htb : Tells vs qs (fun p => decide (p ∈ SB)) := fun p => by rw [decide_eq_true_eq]; exact HSB.out p
  have HFA := Lib.hid hfb; have HGB := Lib.hid hgb'; have HTA := Lib.hid hta; have HTB := Lib.hid htb
  clear hfb hgb' hta htb HSA HSB
  generalize (fun p => decide (p ∈ SA)) = f at *
  generalize (fun p => decide (p ∈ SB)) = g at *
  have HC : Hid (AlkC ws rs vs qs f g) := ⟨HOK.out, HFIT.out, HTA.out, HOK'.out, HFIT'.out, HTB.out⟩
  rcases (Classical.em (rs.length = qs.length)).symm with hlen | hlen
  · have hlb : (((rs.length : Nat) : Int) != ((qs.length : Nat) : Int)) = true := by simp; omega
    have HNO := Lib.hid (len_no (ws := ws) (vs := vs) (f := f) (g := g) hlen)
    have HX8 := Lib.hid (HX4.out.trans (HX48.out.mono HX4.out.size))
    have HR8 := Lib.hid (HR4.out.below HX48.out HR4.out.lt); have HF8 := Lib.hid (HF4.out.below HX48.out HF4.out.lt)
    clear hlen
    go_wp2_with fail
    clear hz8 HMA8 HMM8 HMB8 HMN8 HP8 HT8 HX48
    generalize (((w7.alloc (.map #[] 0)).alloc (.cells #[.pointer (some ⟨ga, 0, none⟩), .map (some Sa), .map (some Ma), .pointer (some ⟨gb, 0, none⟩), .map (some Sb), .map (some w7.heap.size), .slice none 0 0] 156)).alloc (.cells #[.pointer (some ⟨w7.heap.size + 1, 0, none⟩)] 151)) = w8 at *
    obtain ⟨z1, z2, z3, z4, z5⟩ := HR8.out.f2
    obtain ⟨y1, y2, y3, y4, y5⟩ := HF8.out.f2
    clear hmm
    go_region
    all_goals (try go_wp2)
    all_goals
      refine bodyPost_ret (v := .tuple #[.bool false, fltV 0 0]) (by simp [results, Try.results74, go_sem, fltV, z1, z2]) rfl ⟨?_, .inr (.inr ⟨HZA.out, HZB.out, f, g, HTA.out, HTB.out, by rw [HNO.out]⟩)⟩
      repeat (first | exact HX8.out | refine Below.drew ?_ | refine Below.setCell ?_ (by dsimp only; omega) _)
  have hlb : (((rs.length : Nat) : Int) != ((qs.length : Nat) : Int)) = false := by simp; omega
  have HLEN := Lib.hid hlen
  clear hlen
  have hmf : ∀ (fn : Fn) (first cap : Array Value) (W : World), (Instr.makeFunc fn first cap).run Try.prog W = .ok (.func fn first cap) W := fun _ _ _ _ => rfl
  go_wp2_with fail
  generalize (((w7.alloc (.map #[] 0)).alloc (.cells #[.pointer (some ⟨ga, 0, none⟩), .map (some Sa), .map (some Ma), .pointer (some ⟨gb, 0, none⟩), .map (some Sb), .map (some w7.heap.size), .slice none 0 0] 156)).alloc (.cells #[.pointer (some ⟨w7.heap.size + 1, 0, none⟩)] 151)) = w8 at *
  clear hmm hlb
  generalize w7.heap.size = Mb at *
  have hMb1 : Ma < Mb := by omega
  have hMa1 : w4.heap.size ≤ Ma := by omega
  have hTB : ∀ W, Turned w8 W (alkT (Mb + 1) (Mb + 1 + 1 + 1) Ma Mb) → Below w4.heap.size w4 W := fun W h => HX48.out.trans (h.below HX48.out.size (fun k hk e => by rcases e with e | e | e | e <;> omega))
  obtain ⟨ba, oa, ca, hVa⟩ := sideV_of HV4.out hTB HOK.out HW.out
  obtain ⟨bb, ob, cb, hVb⟩ := sideV_of HV4'.out hTB HOK'.out HW'.out
  have HTB' := Lib.hid hTB; have HVA := Lib.hid hVa; have HVB := Lib.hid hVb
  clear hTB hVa hVb
  have hend : ∀ W, Turned w8 W (alkT (Mb + 1) (Mb + 1 + 1 + 1) Ma Mb) → Below w.heap.size w W ∧ Blk W (w.heap.size + 1 + 1) 36 #[.int .i64 0, .int .i64 0] ∧ Blk W F 36 #[.int .i64 0, .int .i64 0] := fun W h => by
    have hb := HTB'.out W h
    exact ⟨HX4.out.trans (hb.mono HX4.out.size), HR4.out.below hb HR4.out.lt, HF4.out.below hb HF4.out.lt⟩
  have HEND := Lib.hid hend
  have hst0 : AlkI (Mb + 1) (Mb + 1 + 1 + 1) ga Sa Ma gb Sb Mb 0 f g [] w8 := by
    refine ⟨⟨⟨none, 0, 0, HP8.out, QueueP.nil _ _⟩, ⟨0, by rw [toM_nil]; exact HMM8.out⟩, ⟨0, by rw [List.map_nil, toM_nil]; exact HMN8.out⟩, ?_⟩, PairsI.nil f g, Nat.zero_le _⟩
    have := hz8.out
    omega
  have hcall := all_any (Mb + 1) rs qs B B' d d' (fun z => z) (fun z => z) (AlkI (Mb + 1) (Mb + 1 + 1 + 1) ga Sa Ma gb Sb Mb 0 f g) (alkT (Mb + 1) (Mb + 1 + 1 + 1) Ma Mb) w8 [] HLEN.out hrl HRW.out HRW'.out
    (fun W h => HB4.out.below (HTB'.out W h)) (fun W h => HB4'.out.below (HTB'.out W h)) hst0
    (fun j ps W hj hs ht => alike_st (Mb + 1) (Mb + 1 + 1 + 1) ga Sa Ma gb Sb Mb 0 ws rs vs qs f g HC.out ps _ _ W hs (HFIT.out _ (by rw [nth_eq hj]; exact List.getElem_mem hj)) (HFIT'.out _ (by rw [nth_eq (by have := HLEN.out; omega)]; exact List.getElem_mem _))
      (fun hk => (HTA.out _).2 (.root _ (by rw [nth_eq hj]; exact List.getElem_mem hj) hk)) (fun hk => (HTB.out _).2 (.root _ (by rw [nth_eq (by have := HLEN.out; omega)]; exact List.getElem_mem _) hk)))
  rw [List.map_id', List.map_id'] at hcall
  have HCALL := Lib.hid hcall
  clear hcall hst0 hend
  refine HCALL.out.mono ?_
  rintro e w9 ⟨rfl, hI9, hT9⟩
  have HT9 := Lib.hid hT9; have HI9 := Lib.hid hI9
  clear hT9 hI9 HCALL HMM8 HMN8 HP8
  cases hr : (alAll [] rs qs).1
  · have HNO := Lib.hid (start_no HC.out HLEN.out hr)
    obtain ⟨hx, hrr, hff⟩ := HEND.out _ HT9.out
    have HX9 := Lib.hid hx
    obtain ⟨z1, z2, z3, z4, z5⟩ := hrr.f2
    obtain ⟨y1, y2, y3, y4, y5⟩ := hff.f2
    clear hx hrr hff hmf
    go_wp2_with fail
    go_region
    all_goals (try go_wp2)
    all_goals
      refine bodyPost_ret (v := .tuple #[.bool false, fltV 0 0]) (by simp [results, Try.results74, go_sem, fltV, z1, z2]) rfl ⟨?_, .inr (.inr ⟨HZA.out, HZB.out, f, g, HTA.out, HTB.out, by rw [HNO.out]⟩)⟩
      repeat (first | exact HX9.out | refine Below.drew ?_ | refine Below.setCell ?_ (by dsimp only; omega) _)
  have hst := AlkL.start HC.out HLEN.out hr
  have HL9 := Lib.hid hst.1
  have hI9' := HI9.out hr
  have HI9' := Lib.hid hI9'
  clear hst hI9' HI9
  clear hr
  have hnT : ¬ alkT (Mb + 1) (Mb + 1 + 1 + 1) Ma Mb (Mb + 1 + 1) := by rintro (e | e | e | e) <;> omega
  have hnA : ¬ alkT (Mb + 1) (Mb + 1 + 1 + 1) Ma Mb Sa := by rintro (e | e | e | e) <;> omega
  have hnB : ¬ alkT (Mb + 1) (Mb + 1 + 1 + 1) Ma Mb Sb := by rintro (e | e | e | e) <;> omega
  have HNT := Lib.hid hnT; have HNA := Lib.hid hnA; have HNB := Lib.hid hnB
  clear hnT hnA hnB
  generalize (alAll [] rs qs).2 = ps0 at *
  go_wp2_with fail
  go_loopg [14] 2000 (fun gk _ wr => ∃ k ps, AlkI (Mb + 1) (Mb + 1 + 1 + 1) ga Sa Ma gb Sb Mb k f g ps wr ∧ AlkL ws rs vs qs f g ps k ∧ Turned w8 wr (alkT (Mb + 1) (Mb + 1 + 1 + 1) Ma Mb) ∧ 2000 - k ≤ gk)
  case atStart => exact ⟨0, _, HI9'.out, HL9.out, HT9.out, Nat.le_refl _⟩
  case round =>
    clear HI9' HL9 HT9
    obtain ⟨k, ps, hI, hL, hT, hgk⟩ := hrel
    have hps := HC.out.few hI.2.1
    have HT := Lib.hid hT; have HI := Lib.hid hI; have HL := Lib.hid hL; have HGK := Lib.hid hgk
    obtain ⟨t1, t2, t3⟩ := (hT.blk HT8.out HNT.out).f1
    by_cases hk : k < ps.length
    · obtain ⟨x, y, hd, hxy, htk⟩ := drop_head hk
      obtain ⟨b, off, cap, hblk, hd1, hdc, hblt, e0, e1, htake⟩ := hI.take hk hd
      obtain ⟨c0, c1, c2, c3, c4, c5, c6, cf, clt⟩ := hblk.f7
      have HXY := Lib.hid hxy; have HTK := Lib.hid htk; have HTAKE := Lib.hid htake
      have hw1 : Below wr.heap.size wr (wr.alloc (.cells #[.int .i64 (x : Int), .int .i64 (y : Int)] 158)) := (Below.refl _ _).alloc (Nat.le_refl _) _
      have HB1 := Lib.hid hw1
      have HX1 := Lib.hid (Blk.new wr 158 #[.int .i64 (x : Int), .int .i64 (y : Int)])
      have HC1 := Lib.hid (hblk.alloc (.cells #[.int .i64 (x : Int), .int .i64 (y : Int)] 158))
      have HU1 := Lib.hid ((hT.blk HT8.out HNT.out).alloc (.cells #[.int .i64 (x : Int), .int .i64 (y : Int)] 158))
      have hn0 : (0 : Int) < ((ps.drop k).length : Int) := by omega
      clear hd hxy htk htake hblk hw1 hI hL hT hgk
      generalize (ps.drop k).length = n at *
      go_wp2_with fail
      generalize (wr.alloc (.cells #[.int .i64 (x : Int), .int .i64 (y : Int)] 158)) = w10 at *
      generalize wr.heap.size = Xb at *
      have hXb : Mb + 1 + 1 < Xb := t3
      clear t1 t2 t3 c0 c1 c2 c3 c4 c5 c6 cf clt e0 e1 hn0
      obtain ⟨r1, r2, r3⟩ := HU1.out.f1
      obtain ⟨-, -, -, -, -, -, d6, df, dlt⟩ := HC1.out.f7
      have hn1 : (1 : Int) ≤ (n : Int) := by omega
      have hn2 : (1 : Int) ≤ (cap : Int) := by omega
      clear hmf
      go_region
      have htk := HTAKE.out w10 (if cap = 1 then some ⟨b, off, none⟩ else some ⟨b, off + 2, none⟩) HB1.out (fun h => if_neg (by omega))
      generalize (if cap = 1 then some (⟨b, off, none⟩ : Addr) else some ⟨b, off + 2, none⟩) = ao at *
      have hI11 : AlkI (Mb + 1) (Mb + 1 + 1 + 1) ga Sa Ma gb Sb Mb (k + 1) f g ps (w10.setCell ⟨Mb + 1, 6, none⟩ (.slice ao (n - 1) (cap - 1))).drew := ⟨htk.1.1.keep (Below.refl _ _).drew, htk.1.2⟩
      have hT11 := HT.out.trans (htk.2.trans (turned_of_below (Below.refl _ _).drew) (fun _ _ e => e)) (fun _ _ e => e)
      have hxb11 : Blk (w10.setCell ⟨Mb + 1, 6, none⟩ (.slice ao (n - 1) (cap - 1))).drew Xb 158 #[.int .i64 (x : Int), .int .i64 (y : Int)] := (HX1.out.far (by dsimp only; omega) _).drew
      obtain ⟨v1, v2, v3, v4, v5⟩ := hxb11.f2
      obtain ⟨t1, t2, t3⟩ := (hT11.blk HT8.out HNT.out).f1
      have HI11 := Lib.hid hI11; have HT11 := Lib.hid hT11
      clear htk hI11 hT11 hxb11 r1 r2 r3 d6 df dlt
      generalize (w10.setCell ⟨Mb + 1, 6, none⟩ (.slice ao (n - 1) (cap - 1))).drew = w11 at *
      have hcall := things2_any (Mb + 1) (Mb + 1 + 1 + 1) ga Sa Ma gb Sb Mb (k + 1) ba oa ca bb ob cb ws rs vs qs f g HC.out ps x y w11 HI11.out HXY.out (HVA.out.turn HT11.out) (HVB.out.turn HT11.out)
      cases hr : (thP ws vs ps x y).1
      · have HNO := Lib.hid (HL.out.no HC.out HI.out.2.1 HXY.out hr)
        unfold ThEnd at hcall
        rw [hr] at hcall
        have HCALL := Lib.hid hcall
        clear hcall hr
        go_wp2_with (go_at_call 130; refine HCALL.out.mono ?_; rintro e w12 ⟨rfl, hi12, ht12⟩; have HT12 := Lib.hid (HT11.out.trans ht12 (fun _ _ e => e)); clear hi12 ht12)
        obtain ⟨hx, hrr, hff⟩ := HEND.out _ HT12.out
        have HX9 := Lib.hid hx
        obtain ⟨z1, z2, z3, z4, z5⟩ := hrr.f2
        obtain ⟨y1, y2, y3, y4, y5⟩ := hff.f2
        clear hx hrr hff
        go_region
        all_goals (try go_wp2)
        all_goals
          refine bodyPost_ret (v := .tuple #[.bool false, fltV 0 0]) (by simp [results, Try.results74, go_sem, fltV, z1, z2]) rfl ⟨?_, .inr (.inr ⟨HZA.out, HZB.out, f, g, HTA.out, HTB.out, by rw [HNO.out]⟩)⟩
          repeat (first | exact HX9.out | refine Below.drew ?_ | refine Below.setCell ?_ (by dsimp only; omega) _)
      · unfold ThEnd at hcall
        rw [hr] at hcall
        have HCALL := Lib.hid hcall
        have HL12 := Lib.hid (HL.out.step HC.out HI.out.2.1 hk HXY.out HTK.out hr)
        clear hcall hr
        go_wp2_with (go_at_call 130; refine HCALL.out.mono ?_; rintro e w12 ⟨rfl, hi12, ht12⟩; have HI12 := Lib.hid (hi12 rfl); have HT12 := Lib.hid (HT11.out.trans ht12 (fun _ _ e => e)); clear hi12 ht12)
        go_roundg (gk - 1)
        case rel => exact ⟨k + 1, _, HI12.out, HL12.out, HT12.out, by have := HGK.out; omega⟩
        case measure => have := HGK.out; omega
    · have HKL := Lib.hid (show ps.length ≤ k by omega)
      obtain ⟨wl, rfl⟩ : ∃ x, x = wr := ⟨_, rfl⟩
      obtain ⟨A9, n9, c9, hblk, hq⟩ := hI.1.blk
      rw [List.drop_eq_nil_of_le HKL.out] at hq
      obtain ⟨ao, bq, oq, capq, hv, -, -⟩ := hq
      simp only [List.length_nil] at hv
      rw [hv] at hblk
      obtain ⟨c0, c1, c2, c3, c4, c5, c6, cf, clt⟩ := hblk.f7
      obtain ⟨nm, hma⟩ := hI.1.ma
      have hMlt := hma.lt
      have HMAP := Lib.hid hma
      clear hblk hv hma hk hI hL hT hgk
      go_wp2_with (at_range; refine wpList_rangeI rfl _ 110 3 rfl Try.underlying110 rfl HMAP.out ?_; intro w10 hrg hb10 hs10; have HRG10 := Lib.hid hrg; have HB10 := Lib.hid hb10; clear hrg hb10)
      go_frame
      clear t1 t2 t3 c0 c1 c2 c3 c4 c5 c6 cf clt
      generalize hr0 : wl.heap.size = r at *
      have HR0 := Lib.hid hr0
      clear hr0
      go_loopw [15, 16] (fun _ _ wr => ∃ done : List Int, Below r wl wr ∧ RangI wr Ma r (toM ps) done ∧ ∀ x y : Nat, (x, y) ∈ ps → (x : Int) ∈ done → formOf ws x = 2 → weakQ ws vs f g ps x y = true) (fun _ _ wr => wr.rangeLeft Ma r)
      case atStart => exact ⟨[], HB10.out, HRG10.out, fun x y _ h => by simp at h⟩
      case round =>
        obtain ⟨done, hb, hrg, hdn⟩ := hrel
        have HBW := Lib.hid hb; have HRG := Lib.hid hrg; have HDN := Lib.hid hdn
        clear hb hrg hdn HB10 HRG10
        go_wp2_with (at_next; refine wpList_nextI rfl _ rfl rfl HRG.out ?_ ?_)
        · intro hdone
          have HNO := Lib.hid (HL.out.end_ HC.out HI.out.2.1 HKL.out HLEN.out (fun x y hm h2 => HDN.out x y hm (hdone x _ (toM_some HI.out.2.1.fn hm)) h2))
          have HTX := Lib.hid (HT.out.trans (turned_of_below (by rw [HR0.out]; exact HBW.out)) (fun _ _ e => e))
          clear hdone
          go_wp2_with fail
          obtain ⟨hx, hrr, hff⟩ := HEND.out _ HTX.out
          have HX9 := Lib.hid hx
          obtain ⟨z1, z2, z3, z4, z5⟩ := hrr.f2
          obtain ⟨y1, y2, y3, y4, y5⟩ := hff.f2
          clear hx hrr hff
          go_region
          all_goals (try go_wp2)
          all_goals
            refine bodyPost_ret (v := .tuple #[.bool true, fltV 0 0]) (by simp [results, Try.results74, go_sem, fltV, z1, z2]) rfl ⟨?_, .inr (.inr ⟨HZA.out, HZB.out, f, g, HTA.out, HTB.out, by rw [HNO.out]⟩)⟩
            repeat (first | exact HX9.out | refine Below.drew ?_ | refine Below.setCell ?_ (by dsimp only; omega) _)
        · intro kk v w13 hkv hwf hrg13 hlt13 hg13 hs13 hen
          obtain ⟨x, y, rfl, rfl, hxy⟩ := toM_inv hkv
          have hb13 := HBW.out.grown hg13 (by have := HBW.out.size; rw [HR0.out] at this; exact this) (fun k e => by cases e; exact Nat.le_refl _)
          have hT13 : Turned w8 w13 (alkT (Mb + 1) (Mb + 1 + 1 + 1) Ma Mb) := HT.out.trans (turned_of_below (by rw [HR0.out]; exact hb13)) (fun _ _ e => e)
          have hI13 : AlkI (Mb + 1) (Mb + 1 + 1 + 1) ga Sa Ma gb Sb Mb k f g ps w13 := ⟨HI.out.1.keep (by rw [HR0.out]; exact hb13), HI.out.2⟩
          obtain ⟨rx, ry⟩ := hI13.2.1.rch x y hxy
          have px := (tell_fit HC.out.ok HC.out.fit HC.out.tell rx).1
          have py := (tell_fit HC.out.ok' HC.out.fit' HC.out.tell' ry).1
          obtain ⟨px2, pxl, pxb⟩ := places_mem px
          obtain ⟨py2, pyl, pyb⟩ := places_mem py
          obtain ⟨m1, m2, m3, m4, m5⟩ := not_bad pxb
          have hcell : ∀ W, Below w13.heap.size w13 W → W.cell? ⟨Mb + 1 + 1, 0, none⟩ = some (.pointer (some ⟨Mb + 1, 0, none⟩)) ∧ W.cell? ⟨Mb + 1, 0, none⟩ = some (.pointer (some ⟨ga, 0, none⟩)) ∧ W.cell? ⟨Mb + 1, 3, none⟩ = some (.pointer (some ⟨gb, 0, none⟩)) := fun W h => by
            obtain ⟨A', n', c', hbk, _⟩ := (hI13.1.keep h).blk
            exact ⟨((hT13.trans (turned_of_below h) (fun _ _ e => e)).blk HT8.out HNT.out).f1.1, hbk.f7.1, hbk.f7.2.2.2.1⟩
          have hfm : ∀ W, Below w13.heap.size w13 W → Calls Try.prog 97 #[.pointer (some ⟨ga, 0, none⟩), .int .i64 x] W fun e w' => e = .returned (.int .i64 (formOf ws x)) ∧ W = w' := fun W h =>
            formv_any (HVA.out.view W (hT13.trans (turned_of_below h) (fun _ _ e => e))) HVA.out.i64 (by omega) x (by omega)
          have hd : Below w13.heap.size w13 w13.drew := (Below.refl _ _).drew
          have HCELL := Lib.hid hcell; have HFM := Lib.hid hfm; have HD := Lib.hid hd
          have HRG13 := Lib.hid hrg13; have HB13 := Lib.hid hb13; have HXY := Lib.hid hxy; have HT13 := Lib.hid hT13
          have hrl := hrg13.lt
          have hS0 := hcell _ hd
          obtain ⟨s0, s1, s2⟩ := hcell _ (Below.refl _ _)
          by_cases h2 : formOf ws x = 2
          · have hfb : (formOf ws x == 2) = true := by simpa using h2
            have hsa : ∀ W, Below w13.heap.size w13 W → Calls Try.prog 98 #[.pointer (some ⟨ga, 0, none⟩), .int .i64 x] W fun e w' => e = .returned (.slice (slotsA ba oa ca x) (slotsN ws x) (ca - (x + 3))) ∧ Below w13.heap.size w13 w' := fun W h => by
              have ht := hT13.trans (turned_of_below h) (fun _ _ e => e)
              exact (slots_any ws ga ba oa ca x W (HVA.out.cell W ht) (HVA.out.row W ht).1 HVA.out.i64 (by omega) pxb HVA.out.cap).mono fun e w' h' => ⟨h'.1, by obtain ⟨m, rfl⟩ := h'.2; exact h.trans (belowN _ _ m)⟩
            have hsb : ∀ W, Below w13.heap.size w13 W → Calls Try.prog 98 #[.pointer (some ⟨gb, 0, none⟩), .int .i64 y] W fun e w' => e = .returned (.slice (slotsA bb ob cb y) (slotsN vs y) (cb - (y + 3))) ∧ Below w13.heap.size w13 w' := fun W h => by
              have ht := hT13.trans (turned_of_below h) (fun _ _ e => e)
              exact (slots_any vs gb bb ob cb y W (HVB.out.cell W ht) (HVB.out.row W ht).1 HVB.out.i64 (by omega) pyb HVB.out.cap).mono fun e w' h' => ⟨h'.1, by obtain ⟨m, rfl⟩ := h'.2; exact h.trans (belowN _ _ m)⟩
            have hwk : ∀ W, Below w13.heap.size w13 W → Calls Try.prog 128 #[.slice (slotsA ba oa ca x) (slotsN ws x) (ca - (x + 3)), .slice (slotsA bb ob cb y) (slotsN vs y) (cb - (y + 3)), .func (.func 131) #[] #[.pointer (some ⟨Mb + 1 + 1, 0, none⟩)]] W
                fun e w' => e = .returned (.bool (weakQ ws vs f g ps x y)) ∧ Below w13.heap.size w13 w' := fun W h => by
              have ht := hT13.trans (turned_of_below h) (fun _ _ e => e)
              exact (weakall_any (Mb + 1) (Mb + 1 + 1 + 1) ga Sa Ma gb Sb Mb k (Mb + 1 + 1) ba oa ca bb ob cb ws rs vs qs f g HC.out ps x y _ W ⟨hI13.1.keep h, hI13.2⟩ HL.out HKL.out (ht.blk HT8.out HNT.out) na nb SA SB
                (ht.map HMA8.out HNA.out) HFA.out (ht.map HMB8.out HNB.out) HGB.out hxy h2 (HVA.out.turn ht) (HVB.out.turn ht)).mono fun e w' h' => ⟨h'.1, h.trans (h'.2.mono h.size)⟩
            have HSA := Lib.hid hsa; have HSB := Lib.hid hsb; have HWK := Lib.hid hwk; have H2 := Lib.hid h2
            clear hkv hwf hrg13 hg13 hb13 hT13 hI13 rx ry px py px2 pxl pxb py2 pyl pyb m1 m2 m3 m4 m5 hcell hfm hd hsa hsb hwk hxy h2
            generalize hwp : weakQ ws vs f g ps x y = wp at *
            have HWP := Lib.hid hwp
            clear hwp
            go_wp2_with fail
            go_region_held3 (fun W => W.cell? ⟨Mb + 1 + 1, 0, none⟩ = some (.pointer (some ⟨Mb + 1, 0, none⟩)) ∧ W.cell? ⟨Mb + 1, 0, none⟩ = some (.pointer (some ⟨ga, 0, none⟩)) ∧ W.cell? ⟨Mb + 1, 3, none⟩ = some (.pointer (some ⟨gb, 0, none⟩)))
              (first | exact hS3 | exact hS2 | exact hS1 | exact hS0 | go_keep)
              (first
                | (go_at_call 97; with_reducible refine (HFM.out _ HD.out).mono ?_; rintro e w14 ⟨rfl, rfl⟩)
                | (go_at_call 98; with_reducible refine (HSA.out _ HD.out).mono ?_; rintro e w15 ⟨rfl, hb1⟩; have HB1 := Lib.hid hb1; have hS1 := HCELL.out _ hb1; clear hb1)
                | (go_at_call 98; with_reducible refine (HSB.out _ HB1.out).mono ?_; rintro e w16 ⟨rfl, hb2⟩; have HB2 := Lib.hid hb2; have hS2 := HCELL.out _ hb2; clear hb2)
                | (go_at_call 128; with_reducible refine (HWK.out _ HB2.out).mono ?_; rintro e w17 ⟨rfl, hb3⟩; have HB3 := Lib.hid hb3; have hS3 := HCELL.out _ hb3; clear hb3))
            all_goals cases wp
            all_goals clear hS0 hS1 hS2 hS3 s0 s1 s2
            all_goals first
              | (have hwf : weakQ ws vs f g ps x y = false := HWP.out
                 clear hwf
                 obtain ⟨hx, hrr, hff⟩ := HEND.out _ (HT13.out.trans (turned_of_below HB3.out) (fun _ _ e => e))
                 have HX9 := Lib.hid hx
                 obtain ⟨z1, z2, z3, z4, z5⟩ := hrr.f2
                 obtain ⟨y1, y2, y3, y4, y5⟩ := hff.f2
                 clear hx hrr hff
                 have HNO := Lib.hid (weak_no HC.out HL.out HI.out.2.1 HXY.out H2.out HWP.out)
                 go_wp2_with fail
                 go_region
                 all_goals (try go_wp2)
                 all_goals
                   refine bodyPost_ret (v := .tuple #[.bool false, fltV 0 0]) (by simp [results, Try.results74, go_sem, fltV, z1, z2]) rfl ⟨?_, .inr (.inr ⟨HZA.out, HZB.out, f, g, HTA.out, HTB.out, by rw [HNO.out]⟩)⟩
                   repeat (first | exact HX9.out | refine Below.drew ?_ | refine Below.setCell ?_ (by dsimp only; omega) _))
              | (have hwt : weakQ ws vs f g ps x y = true := HWP.out
                 clear hwt
                 go_wp2_with fail
                 go_roundw
                 case rel =>
                   refine ⟨done ++ [(x : Int)], HB13.out.trans (HB3.out.mono (Nat.le_of_lt hrl.2)), (HRG13.out.kept (HB3.out.block _ hrl.1) (HB3.out.block _ hrl.2)).1, fun x' y' hm hd' h2' => ?_⟩
                   rcases List.mem_append.1 hd' with hd' | hd'
                   · exact HDN.out x' y' hm hd' h2'
                   · rw [List.mem_singleton] at hd'
                     obtain rfl : x' = x := by omega
                     have e' : y' = y := nodup_fst HI.out.2.1.fn hm HXY.out
                     subst e'
                     exact HWP.out
                 case measure => rw [(HRG13.out.kept (HB3.out.block _ hrl.1) (HB3.out.block _ hrl.2)).2]; exact hlt13)
          · have H2 := Lib.hid h2
            have hfo : formOf ws x = 0 ∨ formOf ws x = 1 ∨ formOf ws x = 3 := by
              have h3 : formOf ws x = nth ws (x + 2) % 4 := rfl
              omega
            clear hkv hwf hrg13 hg13 hb13 hT13 hI13 rx ry px py px2 pxl pxb py2 pyl pyb m1 m2 m3 m4 m5 hcell hfm hd hxy h2
            generalize hfx : formOf ws x = fo at *
            have HFX := Lib.hid hfx
            clear hfx
            have hfb : (fo == 2) = false := by rcases hfo with rfl | rfl | rfl <;> rfl
            clear hfo
            go_wp2_with fail
            go_quiet ((go_at_call 97; exact quiet_left (HFM.out _ (belowN _ _ _))))
            have HDQ := Lib.hid (belowN w13.heap.size w13 nq)
            clear hS0 s0 s1 s2
            go_wp2_with fail
            go_roundw
            case rel =>
              refine ⟨done ++ [(x : Int)], HB13.out.trans (HDQ.out.mono (Nat.le_of_lt hrl.2)), (HRG13.out.kept (HDQ.out.block _ hrl.1) (HDQ.out.block _ hrl.2)).1, fun x' y' hm hd' h2' => ?_⟩
              rcases List.mem_append.1 hd' with hd' | hd'
              · exact HDN.out x' y' hm hd' h2'
              · rw [List.mem_singleton] at hd'
                obtain rfl : x' = x := by omega
                exact absurd (HFX.out.symm.trans h2') H2.out
            case measure => rw [(HRG13.out.kept (HDQ.out.block _ hrl.1) (HDQ.out.block _ hrl.2)).2]; exact hlt13
end Go.Proofs.Ytjpppdacamhhfaa
