/- A text cut into tokens, as the program does it. Conditions: strconv.ErrRange holds an error. -/
import Derived.Test.YtacjkdopbelcpaaDoorLxC
import Derived.Test.YtacjkdopbelcpaaDoorMemT
import Derived.Deep.LoopGhost
namespace Go.Proofs.YtacjkdopbelcpaaDoor
open Go.RowKit
set_option linter.unusedVariables false

theorem LV.below {w w' : World} (h : LV w) (hb : Below w.heap.size w w') : LV w' := by
  obtain ⟨te, pe, hc⟩ := h
  exact ⟨te, pe, (hb.cell (p := ⟨1, 0, none⟩) (World.block_lt_of_cell? w _ hc)).trans hc⟩
def ScanTold (s : ByteArray) (w : World) (e : Ending) (w' : World) : Prop := Below w.heap.size w w' ∧ ∃ C c, e = .returned (.tuple #[.slice C (scanF s).1.length c, .agg #[.int .i64 (scanF s).2.1, .int .i64 ((scanF s).2.2 : Nat)]]) ∧ Toks w' C (scanF s).1
theorem cut_kind (x : ByteArray) : (cutF x).1 = 0 ∨ 0 < (cutF x).1 := by
  unfold cutF
  split
  · exact .inl rfl
  · repeat' split
    all_goals (dsimp only; omega)
theorem ownT_grown0 {w w' : World} {base : Nat} {v : Value} {l : List Tok} (h : OwnT w base v l) (hg : w.grownBy w' none) : OwnT w' base v l := h.grown hg (by
  rcases e : v.ownBlock with _ | k
  · exact .inl rfl
  · exact .inr (fun h2 => by cases h2))
theorem fault_store {w wr : World} {n F : Nat} {t : TypeId} {f0 g0 : Value} (hb : Below n w wr) (hF : Blk wr F t #[f0, g0]) (h1 : n ≤ F) (f g : Value) :
    Below n w ((wr.setCell ⟨F, 0, none⟩ f).setCell ⟨F, 1, none⟩ g) ∧ Blk ((wr.setCell ⟨F, 0, none⟩ f).setCell ⟨F, 1, none⟩ g) F t #[f, g] ∧ (∀ k, k ≠ F → ((wr.setCell ⟨F, 0, none⟩ f).setCell ⟨F, 1, none⟩ g).heap[k]? = wr.heap[k]?) ∧ wr.heap.size ≤ ((wr.setCell ⟨F, 0, none⟩ f).setCell ⟨F, 1, none⟩ g).heap.size :=
  ⟨(hb.setCell (p := ⟨F, 0, none⟩) h1 f).setCell (p := ⟨F, 1, none⟩) h1 g, (hF.set_ 0 f).set_ 1 g, fun k hk => (Below.heap_setCell _ ⟨F, 1, none⟩ _ _ hk).trans (Below.heap_setCell _ ⟨F, 0, none⟩ _ _ hk), by simp⟩
theorem Toks.far {w W : World} {A : Option Addr} {l : List Tok} {n F : Nat} (h : Toks w A l) (hn : ∀ a, A = some a → n ≤ a.block) (hF : F < n) (hz : w.heap.size ≤ W.heap.size) (hk : ∀ k, k ≠ F → W.heap[k]? = w.heap[k]?) : Toks W A l := fun hl => by
  obtain ⟨b, o, e, hlt, hc⟩ := h hl
  have hb : b ≠ F := by have := hn _ e; dsimp only at this; omega
  refine ⟨b, o, e, Nat.lt_of_lt_of_le hlt hz, fun i hi => ?_⟩
  obtain ⟨h1, h2, h3⟩ := hc i hi
  exact ⟨(World.cell?_of_block (a := ⟨b, o + i * 3, none⟩) (hk b hb)).trans h1, (World.cell?_of_block (a := ⟨b, o + i * 3 + 1, none⟩) (hk b hb)).trans h2, (World.cell?_of_block (a := ⟨b, o + i * 3 + 2, none⟩) (hk b hb)).trans h3⟩
theorem open_post {E : Act → World → Prop} {a : Act} {W : World} (Q : World → Prop) (hq : Q W) (h : ∀ W', Q W' → E a W') : E a W := h W hq
set_option maxRecDepth 100000 in
set_option maxHeartbeats 2000000 in
theorem scan_any (s : ByteArray) (hs : s.size ≤ 9223372036854775807) (w : World) (hv : LV w) : Calls Tryd.prog 4 #[.string s] w (ScanTold s w) := by
  have hx0 : Below w.heap.size w (w.alloc (.cells #[.int .i64 0, .int .i64 0] 25)) := (Below.refl _ _).alloc (Nat.le_refl _) _
  have HX0 := Lib.hid hx0
  have HQ0 := Lib.hid (Blk.new w 25 #[.int .i64 0, .int .i64 0])
  have HV := Lib.hid (hv.below hx0)
  clear hx0 hv
  by_cases hbig : 4000 < s.size
  · have HS := Lib.hid (At.big hbig)
    have hw1 : Below w.heap.size w (w.alloc (.cells #[.int .i64 1, .int .i64 0] 25)) := (Below.refl _ _).alloc (Nat.le_refl _) _
    have HW1 := Lib.hid hw1
    have hq1 := Blk.new w 25 #[.int .i64 1, .int .i64 0]
    obtain ⟨q1, q2, q3, q4, q5⟩ := hq1.f2
    clear hw1 hq1
    go_enter Tryd.func4, Tryd.ntmps4
    go_wp2_with fail
    refine bodyPost_ret (v := .tuple #[.slice none 0 0, .agg #[.int .i64 1, .int .i64 0]]) (by simp [results, Tryd.results4, go_sem, q1, q2]) rfl ⟨HW1.out, none, 0, ?_, ?_⟩
    · rw [HS.out]; rfl
    · rw [HS.out]; exact fun h => absurd h (Nat.lt_irrefl 0)
  have hle : s.size ≤ 4000 := by omega
  have HST := Lib.hid (At.start hle)
  go_enter Tryd.func4, Tryd.ntmps4
  go_wp2_with fail
  generalize hw1 : (w.alloc (.cells #[.int .i64 0, .int .i64 0] 25)) = w1 at *
  clear hw1
  go_loopw [4, 5] (fun v i wr => ∃ (k : Nat) (acc : List Tok), i = .int .i64 (k : Int) ∧ At s k acc ∧ OwnT wr w1.heap.size v acc ∧ Below w1.heap.size w1 wr ∧ acc.length ≤ k) (fun _ i _ => s.size - (intOf i).toNat)
  case atStart => exact ⟨0, [], rfl, HST.out, OwnT.nil _ _, Below.refl _ _, Nat.zero_le _⟩
  case round =>
    obtain ⟨k, acc, rfl, hat, hown, hbw, hac⟩ := hrel
    have HAT := Lib.hid hat; have HOW := Lib.hid hown; have HBW := Lib.hid hbw
    have hks := hat.1
    have HXW := Lib.hid (HX0.out.trans (hbw.mono HX0.out.size))
    have HQ := Lib.hid (HQ0.out.below hbw HQ0.out.lt)
    have hsz : w1.heap.size ≤ wr.heap.size := hbw.size
    obtain ⟨C, cc, hC, htk, hlo⟩ := hown.toks
    have HTK := Lib.hid htk; have HLO := Lib.hid hlo
    subst hC
    clear hat hown hbw htk hlo
    by_cases hlt : k < s.size
    · have hz := sub_size s k
      have HCUT := Lib.hid (cut_any (s.extract k s.size) (by omega) (by omega) wr (HV.out.below HBW.out))
      have HBAD := Lib.hid (fun h => HAT.out.bad hlt h)
      have HNX := Lib.hid (fun h => HAT.out.next hlt h)
      have HKD := Lib.hid (cut_kind (s.extract k s.size))
      unfold CutTold at HCUT
      generalize cutF (s.extract k s.size) = r at *
      obtain ⟨r1, r2, r3⟩ := r
      dsimp only at HCUT HBAD HNX HKD
      clear hz
      go_wp2_with fail
      refine HCUT.out.mono ?_
      rintro e w2 ⟨rfl, hb2⟩
      have HXW2 := Lib.hid (HXW.out.trans (hb2.mono HXW.out.size))
      have HQ2 := Lib.hid (HQ.out.below hb2 HQ.out.lt)
      have HOW2 := Lib.hid (ownT_grown0 HOW.out (grownBy_below hb2))
      have HBW2 := Lib.hid (HBW.out.trans (hb2.mono HBW.out.size))
      have hFw : w.heap.size < w1.heap.size := HQ0.out.lt
      have hkw : IntKind.i64.wrap ((k : Int) + (r2 : Int)) = (k : Int) + (r2 : Int) ∨ r3 ≠ 0 := by
        by_cases h : r3 = 0
        · left
          have := (HNX.out h).2.1
          exact IntWalk.i64_in _ (by omega)
        · exact .inr h
      by_cases h3 : r3 = 0
      · have hnx := HNX.out h3
        obtain ⟨n1, n2, n3⟩ := hnx
        have HAN := Lib.hid n3
        have hkw := hkw.resolve_right (fun h => h h3)
        have hsz2 : w1.heap.size ≤ w2.heap.size := HBW2.out.size
        clear n3 hb2
        rcases HKD.out with h1 | h1
        · rw [if_pos h1] at HAN
          go_wp2_with fail
          go_roundw
          case rel => exact ⟨k + r2, acc, by go_num, HAN.out, HOW2.out, HBW2.out, by omega⟩
          case measure => simp [intOf]; omega
        · rw [if_neg (by omega)] at HAN
          have HOA := Lib.hid (HOW2.out.alloc (.cells #[.int .i64 r1, .string (s.extract k (k + r2)), .int .i64 (k : Int)] 29))
          have HNW := Lib.hid (tok_news w2 ⟨r1, s.extract k (k + r2), k⟩)
          have hsa : w1.heap.size ≤ (w2.alloc (.cells #[.int .i64 r1, .string (s.extract k (k + r2)), .int .i64 (k : Int)] 29)).heap.size := by rw [World.size_alloc]; omega
          have HBA : Hid (Below w1.heap.size w1 (w2.alloc (.cells #[.int .i64 r1, .string (s.extract k (k + r2)), .int .i64 (k : Int)] 29))) := HBW2.out.alloc hsz2 _
          go_wp2_with (at_builtin; refine wpList_pushT rfl _ _ rfl w1.heap.size _ acc rfl HOA.out ⟨r1, s.extract k (k + r2), k⟩ ⟨w2.heap.size, 0, none⟩ 1 rfl HNW.out (by omega) hsa ?_; intro v9 w9 hown9 hgr9; have HOW9 := Lib.hid hown9; have HB9 := Lib.hid (HBA.out.grown hgr9 hsa (fun q hq => (HOA.out.lt q hq).1)); clear hown9 hgr9)
          go_roundw
          case rel => exact ⟨k + r2, _, by go_num, HAN.out, HOW9.out, HB9.out, by simp; omega⟩
          case measure => simp [intOf]; omega
      · have HS := Lib.hid (HBAD.out h3)
        have h3' : (r3 != 0) = true := by simpa using h3
        have hfs := fault_store HXW2.out HQ2.out (Nat.le_refl _) (.int .i64 r3) (.int .i64 (k : Int))
        have HFS := Lib.hid hfs
        obtain ⟨q1, q2, q3, q4, q5⟩ := HQ2.out.f2
        clear hfs hb2 hkw h3
        go_wp2_with fail
        have hfs := HFS.out
        refine open_post (fun W => Below w.heap.size w W ∧ Blk W w.heap.size 25 #[.int .i64 r3, .int .i64 (k : Int)] ∧ (∀ j, j ≠ w.heap.size → W.heap[j]? = w2.heap[j]?) ∧ w2.heap.size ≤ W.heap.size) hfs ?_
        rintro W ⟨hbW, hqW, -, -⟩
        obtain ⟨u1, u2, -⟩ := hqW.f2
        refine bodyPost_ret (v := .tuple #[.slice none 0 0, .agg #[.int .i64 r3, .int .i64 (k : Int)]]) (by simp [results, Tryd.results4, go_sem, u1, u2]) rfl ⟨hbW, none, 0, ?_, ?_⟩
        · rw [HS.out]; rfl
        · rw [HS.out]; exact fun h => absurd h (Nat.lt_irrefl 0)
    · have hend := HAT.out.stop hlt
      have HEND := Lib.hid hend
      have hFw : w.heap.size < w1.heap.size := HQ0.out.lt
      have hfs := fault_store HXW.out HQ.out (Nat.le_refl _) (.int .i64 0) (.int .i64 0)
      have HFS := Lib.hid hfs
      obtain ⟨q1, q2, q3, q4, q5⟩ := HQ.out.f2
      clear hend hfs
      go_wp2_with fail
      have hfs := HFS.out
      refine open_post (fun W => Below w.heap.size w W ∧ Blk W w.heap.size 25 #[.int .i64 0, .int .i64 0] ∧ (∀ j, j ≠ w.heap.size → W.heap[j]? = wr.heap[j]?) ∧ wr.heap.size ≤ W.heap.size) hfs ?_
      rintro W ⟨hbW, hqW, hkW, hzW⟩
      obtain ⟨u1, u2, -⟩ := hqW.f2
      refine bodyPost_ret (v := .tuple #[.slice C acc.length cc, .agg #[.int .i64 0, .int .i64 0]]) (by simp [results, Tryd.results4, go_sem, u1, u2]) rfl ⟨hbW, C, cc, ?_, ?_⟩
      · rw [HEND.out]; rfl
      · rw [HEND.out]; exact HTK.out.far HLO.out hFw hzW hkW
end Go.Proofs.YtacjkdopbelcpaaDoor
