/- gessoref17.Play. Conditions: numbers of 64 bits; the roots may be. -/
import Derived.Test.YtjpppdacamhhfaaTsM
import Derived.Test.YtjpppdacamhhfaaTrG
namespace Go.Proofs.Ytjpppdacamhhfaa
open Go.RowKit
set_option linter.unusedVariables false

/-- 'make([]int, n)': its run. -/
theorem run_zerosN (w : World) (base n : Nat) (hn : n ≤ 1000000000) (hbase : base ≤ w.heap.size) :
    ∃ w', (Instr.makeSlice 22 (.int .i64 (n : Int)) (.int .i64 (n : Int))).run Try.prog w = .ok (.slice (some ⟨w.heap.size, 0, none⟩) n n) w' ∧ Own w' base (.slice (some ⟨w.heap.size, 0, none⟩) n n) (List.replicate n 0) ∧ w.grownBy w' none := by
  obtain ⟨i, hi, hz0, hz1, hz2⟩ := info_parts info3
  obtain ⟨w', h0, h1, h2⟩ := run_make_full (P := Try.prog) w base 22 3 i (.int .i64 0) 1 Try.underlying22 hi hz0 hz1 .i64 .i64 n (by rw [hz2]; omega) (by simp only [maxLen]; omega) hbase
  refine ⟨w', h0, ?_, h2⟩
  unfold Own
  rw [List.length_replicate, List.map_replicate]
  have e : (madeCells (Value.int .i64 0).cells (n * 1)).toList = List.replicate n (.int .i64 0) := by
    rw [Nat.mul_one]; exact toList_madeCells_one _ n
  rw [← e]; exact h1
theorem colRow_zero (n : Nat) : colRow (fun _ => 0) n = List.replicate n 0 := by
  apply List.ext_getElem <;> simp [colRow]
def SPlay (S : TSt) (w : World) (e : Ending) (w' : World) : Prop := Below w.heap.size w w' ∧ ∃ A ca B cb C cc E ce, e = .returned (playV A S.ws.length ca B S.rs.length cb C (colsL S).length cc (doneB S) E (freedL S).length ce) ∧ Ints w' A S.ws ∧ S.ws.length ≤ ca ∧ Ints w' B S.rs ∧ Ints w' C (colsL S) ∧ Ints w' E (freedL S)

theorem own_grown0 {w w' : World} {base : Nat} {v : Value} {xs : List Int} (h : Own w base v xs) (hg : w.grownBy w' none) : Own w' base v xs := h.grown hg (by
  cases e : v.ownBlock with
  | none => exact .inl rfl
  | some k => exact .inr (fun h => nomatch h))
theorem start_at {w1 W : World} {ws rs : List Int} {A : Option Addr} {c : Nat} {B : Option Addr} {n d : Nat} {C : Option Addr} (hA : Ints w1 A ws) (hcap : ws.length ≤ c) (hw : I64 ws) (hok : OkH ws) (hft : ∀ o ∈ rs, fitsB ws o = true) (hrl : rs.length ≤ 50000)
    (hb : Below w1.heap.size w1 W) (hB : Own W w1.heap.size (.slice B n d) rs) (hC : Own W w1.heap.size (.slice C (ws.length + 1) (ws.length + 1)) (List.replicate (ws.length + 1) 0))
    (hne : ∀ k, (Value.slice B n d).ownBlock = some k → (Value.slice C (ws.length + 1) (ws.length + 1)).ownBlock ≠ some k) :
    StAt (W.alloc (.cells #[.slice A ws.length c, .slice B n d, .slice C (ws.length + 1) (ws.length + 1)] 176)) w1.heap.size W.heap.size ⟨ws, rs, shades (fun _ => 0) (rs.take 0)⟩ ∧ Below w1.heap.size w1 (W.alloc (.cells #[.slice A ws.length c, .slice B n d, .slice C (ws.length + 1) (ws.length + 1)] 176)) := by
  have hx := hb.alloc hb.size (.cells #[.slice A ws.length c, .slice B n d, .slice C (ws.length + 1) (ws.length + 1)] 176)
  have hn := own_n hB
  subst hn
  have hlo : ∀ a, A = some a → a.block < w1.heap.size := fun a ha => by
    obtain ⟨b, o, e, hlt, -⟩ := hA (by have := hok.two; omega)
    rw [ha] at e; cases e; exact hlt
  refine ⟨⟨A, c, B, d, C, ws.length + 1, ws.length + 1, Blk.new W 176 _, hA.below hx, hcap, hB.alloc _, ?_, Nat.lt_succ_self _, fun a k ha hk => ?_, fun a k ha hk => ?_, hne, hb.size, start_take hok hft 0, hw, by dsimp only; omega⟩, hx⟩
  · show Own _ _ _ (colRow (fun _ => 0) (ws.length + 1))
    rw [colRow_zero]; exact hC.alloc _
  · have := hlo a ha; have := (hB.lt k hk).1; omega
  · have := hlo a ha; have := (hC.lt k hk).1; omega

section
variable (ws rs : List Int) (ops : List TOp) (A B C : Option Addr) (c d e0 : Nat) (w : World) (hA : Ints w A ws) (hcap : ws.length ≤ c) (hw : I64 ws)
    (hB : Ints w B rs) (hrl : rs.length ≤ 50000) (hC : Ops w C ops) (hcl : ops.length ≤ 40000) (hin : ∀ op ∈ ops, OpIn op) (hok : OkH ws) (hft : ∀ o ∈ rs, fitsB ws o = true)
include hA hcap hw hB hrl hC hcl hin hok hft

set_option maxRecDepth 100000 in
set_option maxHeartbeats 4000000 in
theorem splay_any : Calls Try.prog 86 #[.agg #[.slice A ws.length c], .slice B rs.length d, .slice C ops.length e0] w (SPlay (playT ws rs ops) w) := by
  have hx0 : Below w.heap.size w ((w.alloc (.cells #[.slice A ws.length c] 33)).alloc (.cells #[.slice none 0 0, .slice none 0 0, .slice none 0 0, .bool false, .slice none 0 0] 93)) := ((Below.refl _ _).alloc (Nat.le_refl _) _).alloc (by simp) _
  have HX0 := Lib.hid hx0
  have HB5 : Hid (Blk ((w.alloc (.cells #[.slice A ws.length c] 33)).alloc (.cells #[.slice none 0 0, .slice none 0 0, .slice none 0 0, .bool false, .slice none 0 0] 93)) w.heap.size 33 #[.slice A ws.length c]) := (Blk.new w 33 #[.slice A ws.length c]).alloc _
  have HB6 : Hid (Blk ((w.alloc (.cells #[.slice A ws.length c] 33)).alloc (.cells #[.slice none 0 0, .slice none 0 0, .slice none 0 0, .bool false, .slice none 0 0] 93)) (w.heap.size + 1) 93 #[.slice none 0 0, .slice none 0 0, .slice none 0 0, .bool false, .slice none 0 0]) := by
    have := Blk.new (w.alloc (.cells #[.slice A ws.length c] 33)) 93 #[.slice none 0 0, .slice none 0 0, .slice none 0 0, .bool false, .slice none 0 0]
    rw [World.size_alloc] at this; exact this
  have HA := Lib.hid hA; have HB := Lib.hid hB; have HC := Lib.hid hC; have HW := Lib.hid hw; have HIN := Lib.hid hin
  have HOK := Lib.hid hok; have HFT := Lib.hid hft
  have hq1 := hok.most
  have hq0 := hok.two
  have hwl : IntKind.i64.wrap ((ws.length : Int) + 1) = (ws.length : Int) + 1 := IntWalk.i64_in _ (by omega)
  clear hx0 hA hw hB hC hin hok hft
  generalize hS : playT ws rs ops = S
  have HS := Lib.hid hS
  clear hS
  go_enter Try.func86, Try.ntmps86
  go_upto_region 1 with (fail)
  generalize ((w.alloc (.cells #[.slice A ws.length c] 33)).alloc (.cells #[.slice none 0 0, .slice none 0 0, .slice none 0 0, .bool false, .slice none 0 0] 93)) = w1 at *
  go_cut [7] (fun s wx => ∃ P, s = .pointer (some ⟨P, 0, none⟩) ∧ StAt wx w1.heap.size P ⟨ws, rs, shades (fun _ => 0) (rs.take 0)⟩ ∧ Below w1.heap.size w1 wx)
  case first =>
    obtain ⟨x1, x2, x3⟩ := HB5.out.f1
    obtain ⟨wm, hrm, hom, hgm⟩ := run_zerosN w1.drew w1.heap.size (ws.length + 1) (by omega) (Nat.le_refl _)
    obtain ⟨wb, hrb, hob, hgb⟩ := run_zerosN ((w1.alloc (.cells #[] 3)).drew) w1.heap.size (ws.length + 1) (by omega) (by show _ ≤ (w1.alloc _).heap.size; rw [World.size_alloc]; omega)
    have hzb : ((w1.alloc (.cells #[] 3)).drew).heap.size = w1.heap.size + 1 := World.size_alloc _ _
    have hzm : (w1.drew).heap.size = w1.heap.size := rfl
    rw [show (((ws.length + 1 : Nat)) : Int) = (ws.length : Int) + 1 by omega] at hrm hrb
    rw [hzb] at hrb hob
    rw [hzm] at hrm hom
    have hb0 : Below w1.heap.size w1 ((w1.alloc (.cells #[] 3)).drew) := ((Below.refl _ _).alloc (Nat.le_refl _) _).drew
    have hbb : Below w1.heap.size w1 wb := hb0.grown hgb (by omega) (fun k hk => nomatch hk)
    have hbm : Below w1.heap.size w1 wm := (Below.refl _ _).drew.grown hgm (Nat.le_refl _) (fun k hk => nomatch hk)
    have hbm2 : Below w1.heap.size w1 (wm.alloc (.cells #[] 3)) := hbm.alloc hbm.size _
    have hl0 : Own ((w1.alloc (.cells #[] 3)).drew) w1.heap.size (.slice (some ⟨w1.heap.size, 0, none⟩) 0 0) [] := (Own.lit0 w1 w1.heap.size (Nat.le_refl _)).drewN 1
    have hlb : Own wb w1.heap.size (.slice (some ⟨w1.heap.size, 0, none⟩) 0 0) [] := own_grown0 hl0 hgb
    have hlm : Own (wm.alloc (.cells #[] 3)) w1.heap.size (.slice (some ⟨wm.heap.size, 0, none⟩) 0 0) [] := Own.lit0 wm w1.heap.size hbm.size
    have hom2 := hom.alloc (.cells #[] 3)
    have hzm2 := (hom.lt w1.heap.size rfl).2
    have hzb2 := (hob.lt (w1.heap.size + 1) rfl).2
    have hlj : ([] : List Int).length + rs.length ≤ 1000000000 := by simp; omega
    have hB1 := HB.out.below HX0.out
    have HA1 := Lib.hid (HA.out.below HX0.out)
    have x1b := (hbb.cell (p := ⟨w.heap.size, 0, none⟩) x3).trans x1
    have x1m := (hbm.cell (p := ⟨w.heap.size, 0, none⟩) x3).trans x1
    have x1n := (hbm2.cell (p := ⟨w.heap.size, 0, none⟩) x3).trans x1
    go_region_law (first
      | (refine step_joinM rfl _ _ rfl w1.heap.size (.slice (some ⟨w1.heap.size, 0, none⟩) 0 0) [] rfl hl0 B d rs rfl (hB1.below hb0) hlj hb0.size ?_; intro B7 n7 d7 w7 hown7 hgr7 hat7; have hb7 := hb0.grown hgr7 hb0.size (fun k hk => (hl0.lt k hk).1); have x17 := (hb7.cell (p := ⟨w.heap.size, 0, none⟩) x3).trans x1; obtain ⟨wn, hrn, hon, hgn⟩ := run_zerosN w7 w1.heap.size (ws.length + 1) (by omega) hb7.size; rw [show (((ws.length + 1 : Nat)) : Int) = (ws.length : Int) + 1 by omega] at hrn; have hbn := hb7.grown hgn hb7.size (fun k hk => nomatch hk); have x1w := (hbn.cell (p := ⟨w.heap.size, 0, none⟩) x3).trans x1; have HFIN := Lib.hid (start_at HA1.out hcap HW.out HOK.out HFT.out hrl hbn (own_grown0 hown7 hgn) hon (fun k hk e => by have e1 : w7.heap.size = k := Option.some.inj e; have := (hown7.lt _ hk).2; omega)))
      | (refine step_joinM rfl _ _ rfl w1.heap.size (.slice (some ⟨w1.heap.size, 0, none⟩) 0 0) [] rfl hlb B d rs rfl (hB1.below hbb) hlj hbb.size ?_; intro B7 n7 d7 w7 hown7 hgr7 hat7; have hb7 := hbb.grown hgr7 hbb.size (fun k hk => (hlb.lt k hk).1); have x17 := (hb7.cell (p := ⟨w.heap.size, 0, none⟩) x3).trans x1; have HFIN := Lib.hid (start_at HA1.out hcap HW.out HOK.out HFT.out hrl hb7 hown7 (hob.grown hgr7 (.inr (fun e => by have e1 := Option.some.inj e; dsimp only at e1; omega))) (fun k hk e => by have e3 : w1.heap.size + 1 = k := Option.some.inj e; rcases hat7 _ hk with e2 | e2; (have e1 : w1.heap.size = k := Option.some.inj e2; omega); omega)))
      | (refine step_joinM rfl _ _ rfl w1.heap.size (.slice (some ⟨wm.heap.size, 0, none⟩) 0 0) [] rfl hlm B d rs rfl (hB1.below hbm2) hlj hbm2.size ?_; intro B7 n7 d7 w7 hown7 hgr7 hat7; have hb7 := hbm2.grown hgr7 hbm2.size (fun k hk => (hlm.lt k hk).1); have x17 := (hb7.cell (p := ⟨w.heap.size, 0, none⟩) x3).trans x1; have HFIN := Lib.hid (start_at HA1.out hcap HW.out HOK.out HFT.out hrl hb7 hown7 (hom2.grown hgr7 (.inr (fun e => by have e1 := Option.some.inj e; dsimp only at e1; omega))) (fun k hk e => by have e3 : w1.heap.size = k := Option.some.inj e; rcases hat7 _ hk with e2 | e2; (have e1 : wm.heap.size = k := Option.some.inj e2; omega); (rw [World.size_alloc] at e2; omega)))))
    all_goals (go_wp2_with fail; go_meet; case rel => exact ⟨_, rfl, HFIN.out.1, HFIN.out.2⟩)
  case rest =>
    obtain ⟨P, rfl, hst, hb1⟩ := hcut
    have HST := Lib.hid hst; have HB1 := Lib.hid hb1
    have HB66 := HB6
    have hPB : w.heap.size ≤ w1.heap.size := HX0.out.size
    clear hst hb1 hwl
    go_wp2_with fail
    go_loopw [8] (fun i wr => ∃ j : Nat, i = .int .i64 (j : Int) ∧ j ≤ rs.length ∧ StAt wr w1.heap.size P ⟨ws, rs, shades (fun _ => 0) (rs.take j)⟩ ∧ Below w1.heap.size w1 wr) (fun i _ => rs.length - (intOf i).toNat)
    case atStart => exact ⟨0, rfl, Nat.zero_le _, HST.out, HB1.out⟩
    case round =>
      obtain ⟨j, rfl, hj, hpx, hbw⟩ := hrel
      have HPJ := Lib.hid hpx; have HBW := Lib.hid hbw
      have HXW := Lib.hid (HX0.out.trans (hbw.mono hPB))
      clear hpx hbw
      by_cases hjl : j < rs.length
      · obtain ⟨b5, o5, rfl, -, r5⟩ := (HB.out.below HXW.out) (by omega)
        have e1 := r5 j hjl
        have hfj := HFT.out (nth rs j) (by rw [nth_eq hjl]; exact List.getElem_mem _)
        obtain ⟨A8, c8, B8, d8, C8, N8, e8, h8⟩ := HPJ.out
        have HSH := Lib.hid (sshade_any _ (nth rs j) w1.heap.size P A8 c8 B8 d8 C8 N8 e8 wr h8 hfj)
        have HTK := Lib.hid (shades_take (col := fun _ => 0) hjl)
        clear r5 hfj h8
        generalize nth rs j = o at *
        go_wp2_with fail
        refine HSH.out.mono ?_
        rintro e w7 ⟨rfl, hm7, hb7, -⟩
        have HP7 : Hid (StAt w7 w1.heap.size P ⟨ws, rs, shades (fun _ => 0) (rs.take (j + 1))⟩) := by
          show StAt _ _ _ _
          rw [HTK.out]; exact ⟨_, _, _, _, _, _, _, hm7⟩
        have HB7 := Lib.hid (HBW.out.trans hb7)
        clear hm7 hb7 e1
        go_wp2_with fail
        go_roundw
        case rel => exact ⟨j + 1, by go_num, by omega, HP7.out, HB7.out⟩
        case measure => simp [intOf]; omega
      · obtain rfl : j = rs.length := by omega
        have hpl := HPJ.out
        rw [List.take_length] at hpl
        have HPL : Hid (StAt wr w1.heap.size P (startT ws rs)) := hpl
        clear hpl HPJ HST
        go_wp2_with fail
        generalize wr = w7 at *
        go_loopw [9] (fun i wr => ∃ j : Nat, i = .int .i64 (j : Int) ∧ j ≤ ops.length ∧ StAt wr w1.heap.size P ((ops.take j).foldl doT (startT ws rs)) ∧ Below w1.heap.size w1 wr) (fun i _ => ops.length - (intOf i).toNat)
        case atStart => exact ⟨0, rfl, Nat.zero_le _, HPL.out, HBW.out⟩
        case round =>
          obtain ⟨j, rfl, hj, hpl, hbw⟩ := hrel
          have HPJ := Lib.hid hpl; have HBJ := Lib.hid hbw
          have HXJ := Lib.hid (HX0.out.trans (hbw.mono hPB))
          clear hpl hbw
          by_cases hjl : j < ops.length
          · obtain ⟨b5, o5, rfl, hb5, r5⟩ := (HC.out.below HXJ.out) (by omega)
            have g0 := r5 j hjl 0 (by omega)
            have g1 := r5 j hjl 1 (by omega)
            have g2 := r5 j hjl 2 (by omega)
            have g3 := r5 j hjl 3 (by omega)
            have g4 := r5 j hjl 4 (by omega)
            have g5 := r5 j hjl 5 (by omega)
            have HSTP := Lib.hid (play_step ws rs hjl)
            have HI := Lib.hid (HIN.out _ (List.getElem_mem hjl))
            generalize ops[j] = op at *
            simp only [opL, nth, List.getD_cons_zero, List.getD_cons_succ, Nat.add_zero] at g0 g1 g2 g3 g4 g5
            clear r5
            have hop := do_any _ op _ _ _ HPJ.out HI.out (by have := fold_len (ops.take j) (startT ws rs); have h8 : (startT ws rs).rs.length = rs.length := rfl; have h9 := List.length_take_le j ops; omega)
            have HOP := Lib.hid hop
            clear hop
            unfold opV at HOP
            go_wp2_with fail
            refine HOP.out.mono ?_
            rintro e w8 ⟨rfl, hp8, hb8⟩
            have HP8 : Hid (StAt w8 w1.heap.size P ((ops.take (j + 1)).foldl doT (startT ws rs))) := by
              show StAt _ _ _ _
              rw [HSTP.out]; exact hp8
            have HB9 := Lib.hid (HBJ.out.trans hb8)
            clear hp8 hb8 g0 g1 g2 g3 g4 g5 HOP
            go_wp2_with fail
            go_roundw
            case rel => exact ⟨j + 1, by go_num, by omega, HP8.out, HB9.out⟩
            case measure => simp [intOf]; omega
          · obtain rfl : j = ops.length := by omega
            have hpl := HPJ.out
            rw [List.take_length] at hpl
            have HPS : Hid (StAt wr w1.heap.size P S) := by
              show StAt _ _ _ _
              rw [← HS.out]; exact hpl
            clear hpl HPJ HPL HBW
            obtain ⟨A9, c9, B9, d9, C9, N9, e9, hx⟩ := HPS.out
            have HX := Lib.hid hx
            obtain ⟨x1, x2, x3, x4, x5, x6, x7⟩ := hx.blk.f3
            clear hx
            go_wp2_with fail
            go_region
            have hx8 : Below wr.heap.size wr ((wr.alloc (.cells #[.slice A9 S.ws.length c9, .slice B9 S.rs.length d9, .slice none 0 0, .bool true, .slice none 0 0] 93)).drew) := ((Below.refl _ _).alloc (Nat.le_refl _) _).drew
            have HX8 := Lib.hid (HX.out.move hx8)
            have HB8 := Lib.hid (HBJ.out.trans (hx8.mono HX.out.base_le))
            have HQ8 : Hid (Blk ((wr.alloc (.cells #[.slice A9 S.ws.length c9, .slice B9 S.rs.length d9, .slice none 0 0, .bool true, .slice none 0 0] 93)).drew) wr.heap.size 93 #[.slice A9 S.ws.length c9, .slice B9 S.rs.length d9, .slice none 0 0, .bool true, .slice none 0 0]) := Blk.new wr 93 _
            have hQb : w1.heap.size ≤ wr.heap.size := HX.out.base_le
            clear hx8 x1 x2 x3 x4 x5 x6 x7
            generalize ((wr.alloc (.cells #[.slice A9 S.ws.length c9, .slice B9 S.rs.length d9, .slice none 0 0, .bool true, .slice none 0 0] 93)).drew) = w9 at *
            generalize wr.heap.size = Q at *
            have hQ9 : Q < w9.heap.size := HQ8.out.lt
            obtain ⟨x1, x2, x3, x4, x5, x6, x7⟩ := HX8.out.blk.f3
            have hml := HX8.out.tok.ok.most
            have htw := HX8.out.tok.ok.two
            have hnum := HX8.out.num
            obtain ⟨b, ob, rfl, hlt, hrow⟩ := HX8.out.row (by omega)
            obtain ⟨G, rfl, hg1, hg2, -, -⟩ := HX8.out.cols.some_ (by rw [colRow_len]; omega)
            have hGQ : G ≠ Q := fun e => own_ne_blk HX8.out.cols HQ8.out (by decide) (by rw [e]; rfl)
            have hPQ : P ≠ Q := blk_ne HX8.out.blk HQ8.out (by decide)
            have hbQ : b ≠ Q := row_ne_blk5 (hrow 0 (by omega)) HQ8.out
            have HCW := Lib.hid (fun (W : World) (ht : Turned w9 W (fun k => k = Q)) (q : Nat) (hq : q < N9) => (show W.cell? ⟨G, q, none⟩ = some (.int .i64 (S.col q)) from (World.cell?_of_block (a := ⟨G, q, none⟩) (ht.block G hg2 hGQ)).trans (by rw [HX8.out.cols.cell q (by rw [colRow_len]; exact hq), colRow_nth hq])))
            have HRW := Lib.hid (fun (W : World) (ht : Turned w9 W (fun k => k = Q)) (q : Nat) (hq : q < S.ws.length) => (show W.cell? ⟨b, ob + q, none⟩ = some (.int .i64 (nth S.ws q)) from (World.cell?_of_block (a := ⟨b, ob + q, none⟩) (ht.block b hlt hbQ)).trans (hrow q hq)))
            have HOK8 := Lib.hid HX8.out.tok.ok; have HW8 := Lib.hid HX8.out.i64
            have HOUT : Hid (OutAt w9 w9 Q S (some ⟨b, ob, none⟩) c9 B9 d9 [] [] [] none 0 0 true none 0 0) := ⟨HQ8.out, Own.nil _ _, Own.nil _ _, (fun q h => nomatch h), rfl, Turned.refl _ _⟩
            clear hrow
            go_wp2_with fail
            clear x1 x2 x3 x4 x5 x6 x7
            go_loopw [12] (fun i wr => ∃ (p : Nat) (pre : List Nat) (C8 : Option Addr) (nc cc : Nat) (dn : Bool), i = .int .i64 (p : Int) ∧ 2 ≤ p ∧ p ≤ 200000 ∧ badFrom S.ws p = none ∧ places S.ws = pre ++ plFrom S.ws p ∧ OutAt w9 wr Q S (some ⟨b, ob, none⟩) c9 B9 d9 pre [] pre C8 nc cc dn none 0 0) (fun i _ => S.ws.length - (intOf i).toNat)
            case atStart => exact ⟨2, [], none, 0, 0, true, rfl, by omega, by omega, HOK8.out.bad, places_eq S.ws, HOUT.out⟩
            case round =>
              obtain ⟨p, pre, C8, nc, cc, dn, rfl, hp2, hp4, hbd, hpl, hout⟩ := hrel
              have HBD := Lib.hid hbd; have HPLS := Lib.hid hpl; have HO8 := Lib.hid hout
              have hq8 := hout.blk
              obtain ⟨q1, q2, q3, q4, q5, f1, f2, f3, f4, f5, ql⟩ := hq8.f5
              have HPW := Lib.hid (hout.turn.blk HX8.out.blk hPQ)
              have hws := hout.turn.size
              obtain ⟨x1, x2, x3, x4, x5, x6, x7⟩ := HPW.out.f3
              clear hbd hpl hq8
              by_cases hpw : p < S.ws.length
              · obtain ⟨hbad, hnx⟩ := badFrom_none HBD.out hpw
                obtain ⟨n1, n2, n3, n4, n5⟩ := not_bad hbad
                have hpl2 : places S.ws = pre ++ p :: plFrom S.ws (nxt S.ws p) := by rw [HPLS.out, plFrom_ok hpw hbad]
                have HPL2 := Lib.hid hpl2
                have hcast := Lib.hid (nxt_cast hbad)
                have HNX := Lib.hid hnx
                have hnl := nxt_le hbad
                have hnxe : nxt S.ws p = p + 3 + slotsN S.ws p := rfl
                have hsd : ((slotsN S.ws p : Nat) : Int) = nth S.ws (p + 2) / 4 := by unfold slotsN; omega
                have HSD := Lib.hid hsd
                have hcc := HCW.out wr hout.turn p (by omega)
                have hnp : p < N9 := by omega
                obtain ⟨u1, u2⟩ := HW8.out (p + 2)
                have hprl : (pre.map S.col).length + [S.col p].length ≤ 1000000000 := by
                  have := places_le S.ws; rw [hpl2] at this; simp at this ⊢; omega
                have hzd : w9.heap.size ≤ ((wr.alloc (.cells #[.int .i64 (S.col p)] 3)).drew).heap.size := by show _ ≤ (wr.alloc _).heap.size; rw [World.size_alloc]; omega
                have HCD : Hid (Own ((wr.alloc (.cells #[.int .i64 (S.col p)] 3)).drew) w9.heap.size (.slice C8 nc cc) (pre.map S.col)) := (HO8.out.cols.alloc _).drewN 1
                have HYD : Hid (Ints ((wr.alloc (.cells #[.int .i64 (S.col p)] 3)).drew) (some ⟨wr.heap.size, 0, none⟩) [S.col p]) := (ints_new wr [S.col p]).drewN 1
                have HBD2 : Hid (Below wr.heap.size wr ((wr.alloc (.cells #[.int .i64 (S.col p)] 3)).drew)) := ((Below.refl _ _).alloc (Nat.le_refl _) _).drew
                clear hbad hnx hpl2 hsd hout
                go_wp2_with fail
                go_region_law (first
                  | (refine step_joinM rfl _ _ rfl w9.heap.size (.slice C8 nc cc) (pre.map S.col) rfl HCD.out (some ⟨wr.heap.size, 0, none⟩) 1 [S.col p] rfl HYD.out hprl hzd ?_; intro C10 n10 c10 w10 hown10 hgr10 hat10; have hpc := HO8.out.pushC hQ9 HBD2.out hown10 hgr10 hat10; have hq10 := hpc.1; obtain ⟨r1, r2, r3, r4, r5, s1, s2, s3, s4, s5, sl⟩ := hq10.f5))
                all_goals
                  refine open_world2 (fun W => OutAt w9 W Q S (some ⟨b, ob, none⟩) c9 B9 d9 (pre ++ [p]) [] pre C10 n10 c10 dn none 0 0) hpc.2 ?_
                  rintro w11 ho11
                  have HO11 := Lib.hid ho11
                  have hq11 := ho11.blk
                  have HP11 := Lib.hid (ho11.turn.blk HX8.out.blk hPQ)
                  have hc2 := HRW.out w11 ho11.turn (p + 2) (by omega)
                  have hcc := HCW.out w11 ho11.turn p hnp
                  clear hpc hq10 r1 r2 r3 r4 r5 s1 s2 s3 s4 s5 sl q1 q2 q3 q4 q5 f1 f2 f3 f4 f5 ql x1 x2 x3 x4 x5 x6 x7 hown10 hgr10 hat10 HO8 HPW HCD HYD HBD2 hprl hzd
                  obtain ⟨q1, q2, q3, q4, q5, f1, f2, f3, f4, f5, ql⟩ := hq11.f5
                  obtain ⟨x1, x2, x3, x4, x5, x6, x7⟩ := HP11.out.f3
                  clear hq11
                  by_cases h1 : S.col p = 1
                  · have HF := Lib.hid (HO11.out.grey (p := p) hQ9 h1)
                    have hc2' := HRW.out _ HF.out.turn (p + 2) (by omega)
                    rw [h1] at hcc
                    clear h1 ho11
                    go_wp2_with fail
                    go_roundw
                    case rel => exact ⟨nxt S.ws p, pre ++ [p], _, _, _, _, by rw [hcast.out], by omega, by omega, HNX.out, by rw [HPL2.out]; simp, HF.out⟩
                    case measure => simp [intOf]; omega
                  · have HF := Lib.hid (HO11.out.white (p := p) h1)
                    have hb1 : (S.col p == 1) = false := by simpa using h1
                    clear h1 ho11
                    generalize S.col p = cp at *
                    go_wp2_with fail
                    go_roundw
                    case rel => exact ⟨nxt S.ws p, pre ++ [p], _, _, _, _, by rw [hcast.out], by omega, by omega, HNX.out, by rw [HPL2.out]; simp, HF.out⟩
                    case measure => simp [intOf]; omega
              · have hpe : places S.ws = pre := by rw [HPLS.out, plFrom_end (by omega), List.append_nil]
                have hof := HO8.out
                rw [← hpe] at hof
                have HOF := Lib.hid hof
                have hdn : dn = doneB S := hof.done
                clear hof hpe hout x1 x2 x3 x4 x5 x6 x7 HPW HO8 HPLS
                go_wp2_with fail
                clear q1 q2 q3 q4 q5 f1 f2 f3 f4 f5 ql
                have HDN := Lib.hid hdn
                have hdd : doneB S = true ∨ doneB S = false := by cases doneB S <;> simp
                clear hdn
                generalize wr = w12 at *
                go_loopw [13] (fun i wr => ∃ (p : Nat) (pre : List Nat) (E8 : Option Addr) (ne ce : Nat), i = .int .i64 (p : Int) ∧ 2 ≤ p ∧ p ≤ 200000 ∧ badFrom S.ws p = none ∧ places S.ws = pre ++ plFrom S.ws p ∧ (dn = false → pre = []) ∧ OutAt w9 wr Q S (some ⟨b, ob, none⟩) c9 B9 d9 (places S.ws) pre (places S.ws) C8 nc cc dn E8 ne ce) (fun i _ => S.ws.length - (intOf i).toNat)
                case atStart => exact ⟨2, [], none, 0, 0, rfl, by omega, by omega, HOK8.out.bad, places_eq S.ws, fun _ => rfl, HOF.out⟩
                case round =>
                  obtain ⟨p, pre, E8, ne, ce, rfl, hp2, hp4, hbd, hpl, hpre, hout⟩ := hrel
                  have HBD := Lib.hid hbd; have HPLS := Lib.hid hpl; have HO8 := Lib.hid hout; have HPRE := Lib.hid hpre
                  have hq8 := hout.blk
                  obtain ⟨q1, q2, q3, q4, q5, f1, f2, f3, f4, f5, ql⟩ := hq8.f5
                  have HPW := Lib.hid (hout.turn.blk HX8.out.blk hPQ)
                  have hws := hout.turn.size
                  obtain ⟨x1, x2, x3, x4, x5, x6, x7⟩ := HPW.out.f3
                  clear hbd hpl hq8 hpre
                  by_cases hgo : p < S.ws.length ∧ dn = true
                  · obtain ⟨hpw, rfl⟩ := hgo
                    obtain ⟨hbad, hnx⟩ := badFrom_none HBD.out hpw
                    obtain ⟨n1, n2, n3, n4, n5⟩ := not_bad hbad
                    have hpl2 : places S.ws = pre ++ p :: plFrom S.ws (nxt S.ws p) := by rw [HPLS.out, plFrom_ok hpw hbad]
                    have HPL2 := Lib.hid hpl2
                    have hcast := Lib.hid (nxt_cast hbad)
                    have HNX := Lib.hid hnx
                    have hnl := nxt_le hbad
                    have hnxe : nxt S.ws p = p + 3 + slotsN S.ws p := rfl
                    have hsd : ((slotsN S.ws p : Nat) : Int) = nth S.ws (p + 2) / 4 := by unfold slotsN; omega
                    have HSD := Lib.hid hsd
                    have hcc := HCW.out wr hout.turn p (by omega)
                    have hc2 := HRW.out wr hout.turn (p + 2) (by omega)
                    have hnp : p < N9 := by omega
                    obtain ⟨u1, u2⟩ := HW8.out (p + 2)
                    have hdl : decide ((p : Int) < S.ws.length) = true := decide_eq_true (by omega)
                    have hprn : pre.length ≤ 2000 := by
                      have := places_le S.ws; rw [hpl2] at this; simp at this; omega
                    clear hbad hnx hpl2 hsd hout
                    by_cases h2 : S.col p = 0
                    · have HF := Lib.hid (fun (W w12 : World) (X : Option Addr) (n kk : Nat) hb hown hgr hat => HO8.out.pushE (W := W) (w10 := w12) (X := X) (n := n) (k := kk) (p := p) hQ9 hb h2 hown hgr hat)
                      rw [h2] at hcc
                      have hlj : (whites S.col pre).length + [2 * (p : Int)].length ≤ 1000000000 := by have := whites_len S.col pre; simp; omega
                      have hzd : w9.heap.size ≤ (wr.alloc (.cells #[.int .i64 (2 * (p : Int))] 3)).heap.size := by rw [World.size_alloc]; omega
                      have HCD : Hid (Own (wr.alloc (.cells #[.int .i64 (2 * (p : Int))] 3)) w9.heap.size (.slice E8 ne ce) (whites S.col pre)) := HO8.out.wh.alloc _
                      have HYD : Hid (Ints (wr.alloc (.cells #[.int .i64 (2 * (p : Int))] 3)) (some ⟨wr.heap.size, 0, none⟩) [2 * (p : Int)]) := ints_new wr [2 * (p : Int)]
                      have HBD2 : Hid (Below wr.heap.size wr (wr.alloc (.cells #[.int .i64 (2 * (p : Int))] 3))) := (Below.refl _ _).alloc (Nat.le_refl _) _
                      have HRT := Lib.hid (fun (W : World) (ht : Turned w9 W (fun k => k = Q)) => HRW.out W ht (p + 2) (by omega))
                      clear h2
                      go_wp2_with (at_builtin; refine wpList_joinM rfl _ _ rfl w9.heap.size (.slice E8 ne ce) (whites S.col pre) rfl HCD.out (some ⟨wr.heap.size, 0, none⟩) 1 [2 * (p : Int)] rfl HYD.out hlj hzd ?_; intro C12 n12 c12 w13 hown12 hgr12 hat12; have hpc := HF.out _ _ _ _ _ HBD2.out hown12 hgr12 hat12; have HPC := Lib.hid hpc.2; have hq12 := hpc.1; have hc22 := HRT.out _ hpc.2.turn; obtain ⟨r1, r2, r3, r4, r5, s1, s2, s3, s4, s5, sl⟩ := hq12.f5; clear hpc hq12 hown12 hgr12 hat12)
                      go_roundw
                      case rel => exact ⟨nxt S.ws p, pre ++ [p], _, _, _, by rw [hcast.out], by omega, by omega, HNX.out, by rw [HPL2.out]; simp, (fun h => by cases h), HPC.out⟩
                      case measure => simp [intOf]; omega
                    · have HF := Lib.hid (HO8.out.black (p := p) h2)
                      have hb2 : (S.col p == 0) = false := by simpa using h2
                      clear h2
                      generalize S.col p = cp at *
                      go_wp2_with fail
                      go_roundw
                      case rel => exact ⟨nxt S.ws p, pre ++ [p], _, _, _, by rw [hcast.out], by omega, by omega, HNX.out, by rw [HPL2.out]; simp, (fun h => by cases h), HF.out⟩
                      case measure => simp [intOf]; omega
                  · have hfl : whites S.col pre = freedL S := by
                      unfold freedL
                      rw [← HDN.out]
                      cases dn with
                      | false => rw [HPRE.out rfl]; rfl
                      | true =>
                        have hge : S.ws.length ≤ p := by
                          rcases Nat.lt_or_ge p S.ws.length with h | h
                          · exact absurd ⟨h, rfl⟩ hgo
                          · exact h
                        have : pre = places S.ws := by rw [HPLS.out, plFrom_end (by omega), List.append_nil]
                        rw [this]; rfl
                    have HBF := Lib.hid (HB8.out.trans (hout.turn.below (by omega) (fun k hk e => by omega)))
                    have HR6 := Lib.hid (HB6.out.below HBF.out HB6.out.lt)
                    have HXF := Lib.hid (HX0.out.trans (HBF.out.mono hPB))
                    have HIA : Hid (Ints wr (some ⟨b, ob, none⟩) S.ws) := fun _ => ⟨b, ob, rfl, by omega, fun j hj => HRW.out wr hout.turn j hj⟩
                    have HIB := Lib.hid (hout.turn.own HX8.out.own (fun q hq e => own_ne_blk HX8.out.own HQ8.out (by decide) (by rw [hq, e])))
                    have hnc := own_n hout.cols
                    have hne := own_n hout.wh
                    rw [List.length_map] at hnc
                    rw [hfl] at hne
                    have hcl2 : (colsL S).length = (places S.ws).length := by unfold colsL; rw [List.length_map]
                    have hRl : w.heap.size + 1 < w1.heap.size := HB6.out.lt
                    have hRQ : w.heap.size + 1 ≠ Q := by omega
                    have hbR : b ≠ w.heap.size + 1 := row_ne_blk5 (HRW.out wr hout.turn 0 (by omega)) HR6.out
                    obtain ⟨a1, a2, a3, a4, a5, b1, b2, b3, b4, b5, al⟩ := HR6.out.f5
                    have h2s : Below w.heap.size w (((((wr.setCell ⟨w.heap.size + 1, 0, none⟩ (.slice (some ⟨b, ob, none⟩) S.ws.length c9)).setCell ⟨w.heap.size + 1, 1, none⟩ (.slice B9 S.rs.length d9)).setCell ⟨w.heap.size + 1, 2, none⟩ (.slice C8 nc cc)).setCell ⟨w.heap.size + 1, 3, none⟩ (.bool dn)).setCell ⟨w.heap.size + 1, 4, none⟩ (.slice E8 ne ce)) ∧ Blk (((((wr.setCell ⟨w.heap.size + 1, 0, none⟩ (.slice (some ⟨b, ob, none⟩) S.ws.length c9)).setCell ⟨w.heap.size + 1, 1, none⟩ (.slice B9 S.rs.length d9)).setCell ⟨w.heap.size + 1, 2, none⟩ (.slice C8 nc cc)).setCell ⟨w.heap.size + 1, 3, none⟩ (.bool dn)).setCell ⟨w.heap.size + 1, 4, none⟩ (.slice E8 ne ce)) (w.heap.size + 1) 93 #[.slice (some ⟨b, ob, none⟩) S.ws.length c9, .slice B9 S.rs.length d9, .slice C8 nc cc, .bool dn, .slice E8 ne ce] ∧ (∀ k, k ≠ w.heap.size + 1 → (((((wr.setCell ⟨w.heap.size + 1, 0, none⟩ (.slice (some ⟨b, ob, none⟩) S.ws.length c9)).setCell ⟨w.heap.size + 1, 1, none⟩ (.slice B9 S.rs.length d9)).setCell ⟨w.heap.size + 1, 2, none⟩ (.slice C8 nc cc)).setCell ⟨w.heap.size + 1, 3, none⟩ (.bool dn)).setCell ⟨w.heap.size + 1, 4, none⟩ (.slice E8 ne ce)).heap[k]? = wr.heap[k]?) ∧ wr.heap.size ≤ (((((wr.setCell ⟨w.heap.size + 1, 0, none⟩ (.slice (some ⟨b, ob, none⟩) S.ws.length c9)).setCell ⟨w.heap.size + 1, 1, none⟩ (.slice B9 S.rs.length d9)).setCell ⟨w.heap.size + 1, 2, none⟩ (.slice C8 nc cc)).setCell ⟨w.heap.size + 1, 3, none⟩ (.bool dn)).setCell ⟨w.heap.size + 1, 4, none⟩ (.slice E8 ne ce)).heap.size :=
                      ⟨below_set5 HXF.out (by omega) _ _ _ _ _, blk_set5 HR6.out _ _ _ _ _, fun k hk => (Below.heap_setCell _ ⟨w.heap.size + 1, 4, none⟩ _ _ hk).trans ((Below.heap_setCell _ ⟨w.heap.size + 1, 3, none⟩ _ _ hk).trans ((Below.heap_setCell _ ⟨w.heap.size + 1, 2, none⟩ _ _ hk).trans ((Below.heap_setCell _ ⟨w.heap.size + 1, 1, none⟩ _ _ hk).trans (Below.heap_setCell _ ⟨w.heap.size + 1, 0, none⟩ _ _ hk)))), by simp⟩
                    have H2S := Lib.hid h2s
                    have HFL := Lib.hid hfl; have HNC := Lib.hid hnc; have HNE := Lib.hid hne; have HCL := Lib.hid hcl2
                    have HO9 := Lib.hid hout
                    have hpd : (p < S.ws.length ∧ decide ((p : Int) < S.ws.length) = true ∧ dn = false) ∨ (¬ p < S.ws.length ∧ decide ((p : Int) < S.ws.length) = false) := by
                      by_cases h : p < S.ws.length
                      · refine .inl ⟨h, decide_eq_true (by omega), ?_⟩
                        cases dn
                        · rfl
                        · exact absurd ⟨h, rfl⟩ hgo
                      · exact .inr ⟨h, decide_eq_false (by omega)⟩
                    clear hfl hnc hne hcl2 h2s hgo hout
                    rcases hpd with ⟨hpw, hpd, rfl⟩ | ⟨hpw, hpd⟩
                    · go_wp2_with fail
                      have h2s := H2S.out
                      refine open_world2 (fun W => Below w.heap.size w W ∧ Blk W (w.heap.size + 1) 93 #[.slice (some ⟨b, ob, none⟩) S.ws.length c9, .slice B9 S.rs.length d9, .slice C8 nc cc, .bool false, .slice E8 ne ce] ∧ (∀ k, k ≠ w.heap.size + 1 → W.heap[k]? = wr.heap[k]?) ∧ wr.heap.size ≤ W.heap.size) h2s ?_
                      rintro W ⟨hbW, hqW, hkW, hsW⟩
                      obtain ⟨u1, u2, u3, u4, u5, -⟩ := hqW.f5
                      refine bodyPost_ret (v := .agg #[.slice (some ⟨b, ob, none⟩) S.ws.length c9, .slice B9 S.rs.length d9, .slice C8 nc cc, .bool false, .slice E8 ne ce]) (by simp [results, Try.results86, go_sem, u1, u2, u3, u4, u5]) rfl ⟨hbW, some ⟨b, ob, none⟩, c9, B9, d9, C8, cc, E8, ce, ?_, ?_, HX8.out.cap, ?_, ?_, ?_⟩
                      · rw [HCL.out, ← HNE.out, ← HNC.out, ← HDN.out]; rfl
                      · exact HIA.out.keep hsW (fun a ha => by cases ha; exact hkW b hbR)
                      · exact ints_far (n := w1.heap.size) (own_fst HIB.out).1 (own_lob HIB.out) hsW (fun k hk => hkW k (by omega))
                      · exact ints_far (n := w9.heap.size) (own_fst HO9.out.cols).1 (own_lob HO9.out.cols) hsW (fun k hk => hkW k (by omega))
                      · rw [← HFL.out]; exact ints_far (n := w9.heap.size) (own_fst HO9.out.wh).1 (own_lob HO9.out.wh) hsW (fun k hk => hkW k (by omega))
                    · go_wp2_with fail
                      have h2s := H2S.out
                      refine open_world2 (fun W => Below w.heap.size w W ∧ Blk W (w.heap.size + 1) 93 #[.slice (some ⟨b, ob, none⟩) S.ws.length c9, .slice B9 S.rs.length d9, .slice C8 nc cc, .bool dn, .slice E8 ne ce] ∧ (∀ k, k ≠ w.heap.size + 1 → W.heap[k]? = wr.heap[k]?) ∧ wr.heap.size ≤ W.heap.size) h2s ?_
                      rintro W ⟨hbW, hqW, hkW, hsW⟩
                      obtain ⟨u1, u2, u3, u4, u5, -⟩ := hqW.f5
                      refine bodyPost_ret (v := .agg #[.slice (some ⟨b, ob, none⟩) S.ws.length c9, .slice B9 S.rs.length d9, .slice C8 nc cc, .bool dn, .slice E8 ne ce]) (by simp [results, Try.results86, go_sem, u1, u2, u3, u4, u5]) rfl ⟨hbW, some ⟨b, ob, none⟩, c9, B9, d9, C8, cc, E8, ce, ?_, ?_, HX8.out.cap, ?_, ?_, ?_⟩
                      · rw [HCL.out, ← HNE.out, ← HNC.out, ← HDN.out]; rfl
                      · exact HIA.out.keep hsW (fun a ha => by cases ha; exact hkW b hbR)
                      · exact ints_far (n := w1.heap.size) (own_fst HIB.out).1 (own_lob HIB.out) hsW (fun k hk => hkW k (by omega))
                      · exact ints_far (n := w9.heap.size) (own_fst HO9.out.cols).1 (own_lob HO9.out.cols) hsW (fun k hk => hkW k (by omega))
                      · rw [← HFL.out]; exact ints_far (n := w9.heap.size) (own_fst HO9.out.wh).1 (own_lob HO9.out.wh) hsW (fun k hk => hkW k (by omega))
end
end Go.Proofs.Ytjpppdacamhhfaa
