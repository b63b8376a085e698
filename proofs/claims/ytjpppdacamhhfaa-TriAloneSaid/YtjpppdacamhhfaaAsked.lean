/- What is wrong with two lists: the program's asked computes the plain function. Conditions: numbers of 64 bits. -/
import Derived.Test.YtjpppdacamhhfaaRoots
import Derived.Test.YtjpppdacamhhfaaBSpec
namespace Go.Proofs.Ytjpppdacamhhfaa
open Go.RowKit
set_option linter.unusedVariables false

/-- The map answers for just those of whom P holds. -/
def SetIs (P : Int → Prop) (f : Int → Option Value) : Prop := ∀ o, (P o → f o = some (.agg #[])) ∧ (¬ P o → f o = none)
theorem SetIs.add {P Q : Int → Prop} {f : Int → Option Value} (h : SetIs P f) (k : Int) (hq : ∀ o, Q o ↔ P o ∨ k = o) : SetIs Q (put f k (.agg #[])) := fun o => by
  by_cases e : o = k
  · subst e
    exact ⟨fun _ => put_same _ _ _, fun hn => absurd ((hq o).2 (.inr rfl)) hn⟩
  · rw [put_other f _ e]
    exact ⟨fun ho => (h o).1 (((hq o).1 ho).resolve_right (fun e' => e e'.symm)), fun hn => (h o).2 (fun hp => hn ((hq o).2 (.inl hp)))⟩
theorem SetIs.congr {P Q : Int → Prop} {f : Int → Option Value} (h : SetIs P f) (hq : ∀ o, Q o ↔ P o) : SetIs Q f := fun o => by
  rw [hq]; exact h o
/-- Who is known within a round: behind none, one, two of the pair. -/
def Known (fr ot : List Int) (both : Bool) (j : Nat) : Nat → Int → Prop
  | 0, o => Named fr ot both j o
  | 1, o => Named fr ot both j o ∨ nth fr j = o
  | _, o => Named fr ot both (j + 1) o

theorem zero128 (w : World) : (zeroValue 128).run Try.prog w = .ok (.agg #[]) w := by kernel_rfl

section
variable (ws fr ot : List Int) (g : Nat) (A B : Option Addr) (c d : Nat) (both : Bool) (w : World) (hv : ViewAt w g ws)
    (hA : Ints w A fr) (hB : Ints w B ot) (hfr : I64 fr) (hto : I64 ot) (hl1 : fr.length ≤ 1000000)
include hv hA hB hfr hto hl1

set_option maxRecDepth 100000 in
set_option maxHeartbeats 4000000 in
theorem asked_any : Calls Try.prog 152 #[.pointer (some ⟨g, 0, none⟩), .slice A fr.length c, .slice B ot.length d, .bool both] w fun e w' => e = .returned (fltV (wrongF ws fr ot both).1 (wrongF ws fr ot both).2) ∧ Below w.heap.size w w' := by
  have HV := Lib.hid (hv.below ((Below.refl _ _).alloc (Nat.le_refl _) (.cells #[.int .i64 0, .int .i64 0] 36)))
  have HA := Lib.hid (hA.alloc (.cells #[.int .i64 0, .int .i64 0] 36))
  have HB := Lib.hid (hB.alloc (.cells #[.int .i64 0, .int .i64 0] 36))
  have HFR := Lib.hid hfr; have HTO := Lib.hid hto
  have HR := Lib.hid (Blk.new w 36 #[.int .i64 0, .int .i64 0])
  have HL := Lib.hid ((Below.refl w.heap.size w).alloc (Nat.le_refl _) (.cells #[.int .i64 0, .int .i64 0] 36))
  clear hv hA hB hfr hto
  by_cases hlen : fr.length = ot.length
  · have hd : ((fr.length : Int) != (ot.length : Int)) = false := by simp; omega
    have HLEN := Lib.hid hlen
    have hle : ot.length ≤ fr.length := by omega
    have hge : fr.length ≤ ot.length := by omega
    clear hlen
    have hmm := @run_makeMap Try.prog
    go_enter Try.func152, Try.ntmps152
    go_wp2_with fail
    generalize hw1 : (w.alloc (.cells #[.int .i64 0, .int .i64 0] 36)) = w1 at *
    clear hw1 hd
    obtain ⟨y1, y2, y3, y4, y5⟩ := HR.out.f2
    go_loop [24] (fun i => ∃ j : Nat, j ≤ fr.length ∧ i = .int .i64 j ∧ bpFrom ws fr ot 0 = bpFrom ws fr ot j) (fun i => fr.length - (intOf i).toNat)
    case atStart => exact ⟨0, Nat.zero_le _, rfl, rfl⟩
    case round =>
      obtain ⟨j, hj, rfl, hbp⟩ := hrel
      have HBP := Lib.hid hbp; clear hbp
      by_cases hlt : j < fr.length
      · obtain ⟨b1, o1, rfl, _, r1⟩ := HA.out (by omega)
        obtain ⟨b2, o2, rfl, _, r2⟩ := HB.out (by omega)
        have e1 := r1 j hlt
        have e2 := r2 j (by omega)
        obtain ⟨t1, t2⟩ := HFR.out j
        obtain ⟨t3, t4⟩ := HTO.out j
        clear r1 r2
        cases hp : pairB ws fr ot j
        · have HBN := Lib.hid (HBP.out.trans (bpFrom_no hlt hp))
          have HE := Lib.hid (wrongF_pair (both := both) HLEN.out HBN.out)
          cases hq : isTh ws (nth fr j)
          · go_wp2_with (go_at_call 95; refine (isv_any HV.out _ (by omega) (by omega)).mono ?_; rintro e w' ⟨rfl, rfl⟩)
            refine bodyPost_ret (v := fltV 3 j) (by simp [results, Try.results152, go_sem, fltV, y1, y2]) rfl ⟨by rw [HE.out], ?_⟩
            repeat (first | exact HL.out | refine Below.setCell ?_ (by dsimp only; omega) _)
          · have hq2 : isTh ws (nth ot j) = false := by unfold pairB at hp; rw [hq] at hp; simpa using hp
            go_wp2_with (go_at_call 95; refine (isv_any HV.out _ (by omega) (by omega)).mono ?_; rintro e w' ⟨rfl, rfl⟩)
            refine bodyPost_ret (v := fltV 3 j) (by simp [results, Try.results152, go_sem, fltV, y1, y2]) rfl ⟨by rw [HE.out], ?_⟩
            repeat (first | exact HL.out | refine Below.setCell ?_ (by dsimp only; omega) _)
        · have HBN := Lib.hid (HBP.out.trans (bpFrom_ok hlt hp))
          have hq : isTh ws (nth fr j) = true ∧ isTh ws (nth ot j) = true := by unfold pairB at hp; simpa using hp
          obtain ⟨hq1, hq2⟩ := hq
          go_wp2_with (go_at_call 95; refine (isv_any HV.out _ (by omega) (by omega)).mono ?_; rintro e w' ⟨rfl, rfl⟩)
          go_round
          case rel => exact ⟨j + 1, by omega, by go_num, HBN.out⟩
          case measure => simp [intOf]; omega
      · obtain rfl : j = fr.length := by omega
        have HBN := Lib.hid (HBP.out.trans bpFrom_end)
        go_wp2_with fail
        have hM := MapI.new w1
        have hx2 : Below w1.heap.size w1 (w1.alloc (.map #[] 0)) := (Below.refl _ _).alloc (Nat.le_refl _) _
        generalize hw2 : (w1.alloc (.map #[] 0)) = w2 at *
        clear hw2
        have HM := Lib.hid hM
        have HX := Lib.hid hx2
        have HL2 := Lib.hid (HL.out.trans (hx2.mono HL.out.size))
        have HA2 := Lib.hid (HA.out.below hx2)
        have HB2 := Lib.hid (HB.out.below hx2)
        have HR2 := Lib.hid (HR.out.below hx2 HR.out.lt)
        have hMs : w.heap.size < w1.heap.size := y5
        clear hM hx2 y1 y2 y3 y4 y5
        generalize hMe : w1.heap.size = M at *
        have HME := Lib.hid hMe; clear hMe
        go_loopw [49] (fun i wr => ∃ (j n : Nat) (f : Int → Option Value), j ≤ fr.length ∧ i = .int .i64 j ∧ w2.grownBy wr (some M) ∧ MapI wr M n f ∧ SetIs (Named fr ot both j) f ∧ btFrom fr ot both 0 = btFrom fr ot both j) (fun i _ => fr.length - (intOf i).toNat)
        case atStart => exact ⟨0, 0, _, Nat.zero_le _, rfl, World.grownBy.refl _ _, HM.out, fun o => ⟨fun h => absurd h named_zero, fun _ => rfl⟩, rfl⟩
        case round =>
          obtain ⟨j, n, f, hj, rfl, hgr, hm, hs, hbt⟩ := hrel
          have HG := Lib.hid hgr; have HMM := Lib.hid hm; have HS := Lib.hid hs; have HBT := Lib.hid hbt
          clear hgr hm hs hbt
          have HR3 := Lib.hid (HR2.out.grown HG.out (by simp; omega))
          by_cases hlt : j < fr.length
          · obtain ⟨b1, o1, rfl, hb1, r1⟩ := HA.out (by omega)
            obtain ⟨b2, o2, rfl, hb2, r2⟩ := HB.out (by omega)
            have hb1' : b1 < M := by rw [← HME.out]; exact hb1
            have hb2' : b2 < M := by rw [← HME.out]; exact hb2
            have e1 := ((r1.below HX.out hb1').grown HG.out (by simp; omega)) j hlt
            have e2 := ((r2.below HX.out hb2').grown HG.out (by simp; omega)) j (by omega)
            clear hb1 hb2
            obtain ⟨t1, t2⟩ := HFR.out j
            obtain ⟨t3, t4⟩ := HTO.out j
            have g1 : (0 : Int) ≤ (j : Int) := by omega
            have g2 : (j : Int) < (fr.length : Int) := by omega
            have g3 : (j : Int) < (ot.length : Int) := by omega
            clear r1 r2
            go_wp2_with fail
            go_region
            go_wp2_with fail
            have hx3 : wr.grownBy ((wr.alloc (.cells #[.int .i64 (nth fr j), .int .i64 (nth ot j)] 3)).drew) (some M) := grownBy_drewN (World.grownBy_alloc wr _ _) 1
            have HP := Lib.hid (Blk.new wr 3 #[.int .i64 (nth fr j), .int .i64 (nth ot j)]).drew
            have HM3 : Hid (MapI ((wr.alloc (.cells #[.int .i64 (nth fr j), .int .i64 (nth ot j)] 3)).drew) M n f) := (HMM.out.alloc _).drew
            generalize hw3 : ((wr.alloc (.cells #[.int .i64 (nth fr j), .int .i64 (nth ot j)] 3)).drew) = w3 at *
            clear hw3
            have hPM : M < wr.heap.size := HMM.out.lt
            have HG3 := Lib.hid (grownBy_trans HG.out hx3)
            have HR4 := Lib.hid (HR3.out.grown hx3 (by simp; omega))
            clear hx3 e1 e2 g1 g2 g3
            generalize wr.heap.size = P at *
            go_loopw [62] (fun s w4 => ∃ (k n' : Nat) (f' : Int → Option Value), k ≤ 2 ∧ s = .int .i64 k ∧ w3.grownBy w4 (some M) ∧ MapI w4 M n' f' ∧ SetIs (Known fr ot both j k) f' ∧ (1 ≤ k → ¬ Named fr ot both j (nth fr j) ∧ both = true) ∧ (2 ≤ k → ¬ (nth fr j = nth ot j ∨ Named fr ot both j (nth ot j)))) (fun s _ => 2 - (intOf s).toNat)
            case atStart => exact ⟨0, n, f, by omega, rfl, World.grownBy.refl _ _, HM3.out, HS.out, fun h => by omega, fun h => by omega⟩
            case round =>
              obtain ⟨k, n', f', hk, rfl, hg4, hm4, hs4, h1, h2⟩ := hrel
              have HG4 := Lib.hid hg4; have HM4 := Lib.hid hm4; have HS4 := Lib.hid hs4; have H1 := Lib.hid h1; have H2 := Lib.hid h2
              clear hg4 hm4 hs4 h1 h2
              have hP4 := HP.out.grown HG4.out (by simp; omega)
              obtain ⟨p1, p2, _, _, _⟩ := hP4.f2
              clear hP4
              have hR5 := HR4.out.grown HG4.out (by simp; omega)
              obtain ⟨y1, y2, y3, y4, y5⟩ := hR5.f2
              have HR5 := Lib.hid hR5; clear hR5
              rcases (show k = 0 ∨ k = 1 ∨ k = 2 from by omega) with rfl | rfl | rfl
              · have hrun := HM4.out.look (t := 127) (e := 128) Try.underlying127 (zero128 _) true (nth fr j) (by omega) (by omega)
                have hB4 := Lib.hid (HL2.out.grown (grownBy_trans HG3.out HG4.out) HL2.out.size (fun k hk => by simp at hk; omega))
                by_cases hn : Named fr ot both j (nth fr j)
                · rw [(HS4.out (nth fr j)).1 hn] at hrun
                  simp only [Option.getD_some, if_true, Option.isSome_some] at hrun
                  have hbn := HBT.out.trans (btFrom_no hlt (.inl hn))
                  have HE := Lib.hid (wrongF_twice HLEN.out HBN.out hbn)
                  clear hn hbn
                  go_wp2
                  refine bodyPost_ret (v := fltV 5 j) (by simp [results, Try.results152, go_sem, fltV, y1, y2, y5]) rfl ⟨by rw [HE.out], ?_⟩
                  repeat (first | exact hB4.out | refine Below.setCell ?_ (by dsimp only; omega) _ | refine Below.alloc ?_ (by simpa using hB4.out.size) _)
                · rw [(HS4.out (nth fr j)).2 hn] at hrun
                  simp only [Option.getD_none, if_true, Option.isSome_none] at hrun
                  have HN := Lib.hid hn
                  clear hn
                  cases both
                  · go_wp2_with (at_mapUpdate; refine wpList_store rfl _ _ _ 127 128 rfl Try.underlying127 (HM4.out.alloc _) rfl (nth fr j) rfl (.agg #[]) rfl (by omega) (by omega) ?_; intro w5 hm5 hgr5; have HM5 := Lib.hid hm5; have HG5 := Lib.hid hgr5; clear hm5 hgr5)
                    go_roundw
                    case rel =>
                      refine ⟨j + 1, _, _, by omega, by go_num, grownBy_trans HG3.out (grownBy_trans (grownBy_alloc' HG4.out _) HG5.out), HM5.out, HS4.out.add _ (fun o => ?_), HBT.out.trans (btFrom_ok hlt (fun ht => ?_))⟩
                      · rw [named_succ]; simp [Known]
                      · rcases ht with ht | ⟨ht, _⟩
                        · exact HN.out ht
                        · cases ht
                    case measure => simp [intOf]; omega
                  · go_wp2_with (at_mapUpdate; refine wpList_store rfl _ _ _ 127 128 rfl Try.underlying127 (HM4.out.alloc _) rfl (nth fr j) rfl (.agg #[]) rfl (by omega) (by omega) ?_; intro w5 hm5 hgr5; have HM5 := Lib.hid hm5; have HG5 := Lib.hid hgr5; clear hm5 hgr5)
                    go_roundw
                    case rel => exact ⟨1, _, _, by omega, rfl, grownBy_trans (grownBy_alloc' HG4.out _) HG5.out, HM5.out, HS4.out.add _ (fun o => Iff.rfl), fun _ => ⟨HN.out, trivial⟩, fun h => by omega⟩
                    case measure => simp [intOf]
              · have hrun := HM4.out.look (t := 127) (e := 128) Try.underlying127 (zero128 _) true (nth ot j) (by omega) (by omega)
                have hB4 := Lib.hid (HL2.out.grown (grownBy_trans HG3.out HG4.out) HL2.out.size (fun k hk => by simp at hk; omega))
                obtain ⟨hn1, rfl⟩ := H1.out (Nat.le_refl _)
                have HN1 := Lib.hid hn1
                clear hn1
                by_cases hn : Named fr ot true j (nth ot j) ∨ nth fr j = nth ot j
                · rw [(HS4.out (nth ot j)).1 hn] at hrun
                  simp only [Option.getD_some, if_true, Option.isSome_some] at hrun
                  have hbn := HBT.out.trans (btFrom_no hlt (.inr ⟨rfl, hn.symm⟩))
                  have HE := Lib.hid (wrongF_twice HLEN.out HBN.out hbn)
                  clear hn hbn
                  go_wp2
                  refine bodyPost_ret (v := fltV 5 j) (by simp [results, Try.results152, go_sem, fltV, y1, y2, y5]) rfl ⟨by rw [HE.out], ?_⟩
                  repeat (first | exact hB4.out | refine Below.setCell ?_ (by dsimp only; omega) _ | refine Below.alloc ?_ (by simpa using hB4.out.size) _)
                · rw [(HS4.out (nth ot j)).2 hn] at hrun
                  simp only [Option.getD_none, if_true, Option.isSome_none] at hrun
                  have HN := Lib.hid hn
                  clear hn
                  go_wp2_with (at_mapUpdate; refine wpList_store rfl _ _ _ 127 128 rfl Try.underlying127 (HM4.out.alloc _) rfl (nth ot j) rfl (.agg #[]) rfl (by omega) (by omega) ?_; intro w5 hm5 hgr5; have HM5 := Lib.hid hm5; have HG5 := Lib.hid hgr5; clear hm5 hgr5)
                  go_roundw
                  case rel =>
                    refine ⟨2, _, _, by omega, rfl, grownBy_trans (grownBy_alloc' HG4.out _) HG5.out, HM5.out, HS4.out.add _ (fun o => ?_), fun _ => ⟨HN1.out, trivial⟩, fun _ h => HN.out h.symm⟩
                    show Named fr ot true (j + 1) o ↔ (Named fr ot true j o ∨ nth fr j = o) ∨ nth ot j = o
                    rw [named_succ, or_assoc]; simp
                  case measure => simp [intOf]
              · obtain ⟨hn1, rfl⟩ := H1.out (by omega)
                have HN1 := Lib.hid hn1
                clear hn1
                go_wp2
                go_roundw
                case rel =>
                  refine ⟨j + 1, _, _, by omega, by go_num, grownBy_trans HG3.out HG4.out, HM4.out, HS4.out, HBT.out.trans (btFrom_ok hlt (fun ht => ?_))⟩
                  rcases ht with ht | ⟨_, ht⟩
                  · exact HN1.out ht
                  · exact H2.out (Nat.le_refl _) ht
                case measure => simp [intOf]; omega
          · obtain rfl : j = fr.length := by omega
            have HE := Lib.hid (wrongF_ok HLEN.out HBN.out (HBT.out.trans btFrom_end))
            obtain ⟨y1, y2, y3, y4, y5⟩ := HR3.out.f2
            have hB4 := Lib.hid (HL2.out.grown HG.out HL2.out.size (fun k hk => by simp at hk; omega))
            go_wp2
            refine bodyPost_ret (v := fltV 0 0) (by simp [results, Try.results152, go_sem, fltV, y1, y2]) rfl ⟨by rw [HE.out], ?_⟩
            repeat (first | exact hB4.out | refine Below.setCell ?_ (by dsimp only; omega) _)
  · have hd : ((fr.length : Int) != (ot.length : Int)) = true := by simp; omega
    have hE := wrongF_len (ws := ws) (both := both) hlen
    rw [hE]
    clear hE hlen
    go_enter Try.func152, Try.ntmps152
    go_wp2
    refine bodyPost_ret (v := fltV 1 0) (by simp [results, Try.results152, go_sem, fltV]) rfl ⟨rfl, ?_⟩
    repeat (first | exact HL.out | exact (Below.refl _ _).alloc (Nat.le_refl _) _ | refine Below.setCell ?_ (by dsimp only; omega) _)
end
end Go.Proofs.Ytjpppdacamhhfaa
