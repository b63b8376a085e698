/- gessoref17's State, shaded, scanned, changed: each step. Conditions: numbers of 64 bits. -/
import Derived.Test.YtjpppdacamhhfaaTrG
import Derived.Test.YtjpppdacamhhfaaRReach
import Derived.Test.YtjpppdacamhhfaaRRSpec
import Derived.Test.YtjpppdacamhhfaaLawPuts
import Derived.Test.YtjpppdacamhhfaaRNew
import Derived.Deep.LoopGhost
namespace Go.Proofs.Ytjpppdacamhhfaa
open Go.RowKit
set_option linter.unusedVariables false

/-- The colours of the first places. -/
def colRow (col : Nat → Int) (n : Nat) : List Int := (List.range n).map col
theorem colRow_len (col : Nat → Int) (n : Nat) : (colRow col n).length = n := by simp [colRow]
theorem colRow_nth {col : Nat → Int} {n j : Nat} (h : j < n) : nth (colRow col n) j = col j := by
  rw [nth_eq (by rw [colRow_len]; exact h)]; simp [colRow]
theorem colRow_set {col : Nat → Int} {n j : Nat} (c : Int) : (colRow col n).set j c = colRow (upd col j c) n := by
  apply List.ext_getElem
  · simp [colRow]
  · intro i h1 h2
    simp only [List.getElem_set, colRow, List.getElem_map, List.getElem_range]
    by_cases e : j = i
    · subst e; rw [if_pos rfl, upd_same]
    · rw [if_neg e, upd_ne _ _ (Ne.symm e)]
theorem colRow_snoc {col : Nat → Int} {n : Nat} : colRow col (n + 1) = colRow col n ++ [col n] := by simp [colRow, List.range_succ]

/-- A State at P: its rows at A, B, C. -/
structure StX (w : World) (base P : Nat) (s : TSt) (A : Option Addr) (c : Nat) (B : Option Addr) (d : Nat) (C : Option Addr) (N e : Nat) : Prop where
  blk : Blk w P 176 #[.slice A s.ws.length c, .slice B s.rs.length d, .slice C N e]
  row : Ints w A s.ws
  cap : s.ws.length ≤ c
  own : Own w base (.slice B s.rs.length d) s.rs
  cols : Own w base (.slice C N e) (colRow s.col N)
  num : s.ws.length < N
  neB : ∀ a k, A = some a → (Value.slice B s.rs.length d).ownBlock = some k → a.block ≠ k
  neC : ∀ a k, A = some a → (Value.slice C N e).ownBlock = some k → a.block ≠ k
  neBC : ∀ k, (Value.slice B s.rs.length d).ownBlock = some k → (Value.slice C N e).ownBlock ≠ some k
  lo : base ≤ P
  tok : TOk s
  i64 : I64 s.ws
  len : s.rs.length ≤ 100000
def StAt (w : World) (base P : Nat) (s : TSt) : Prop := ∃ A c B d C N e, StX w base P s A c B d C N e
def StEnd (base P : Nat) (s : TSt) (w : World) (e : Ending) (w' : World) : Prop := e = .returned (.tuple #[]) ∧ StAt w' base P s ∧ Below base w w'
section
variable {w w' : World} {base P : Nat} {s : TSt} {A : Option Addr} {c : Nat} {B : Option Addr} {d : Nat} {C : Option Addr} {N e : Nat}
theorem StX.move (h : StX w base P s A c B d C N e) (hb : Below w.heap.size w w') : StX w' base P s A c B d C N e :=
  ⟨h.blk.below hb h.blk.lt, h.row.below hb, h.cap, h.own.below hb (fun k hk => (h.own.lt k hk).2), h.cols.below hb (fun k hk => (h.cols.lt k hk).2), h.num, h.neB, h.neC, h.neBC, h.lo, h.tok, h.i64, h.len⟩
theorem StX.base_le (h : StX w base P s A c B d C N e) : base ≤ w.heap.size := by
  have := h.blk.lt; have := h.lo; omega
/-- A colour set. -/
theorem StX.paint {G p : Nat} {x : Int} (h : StX w base P s A c B d (some ⟨G, 0, none⟩) N e) (hk : TOk ⟨s.ws, s.rs, upd s.col p x⟩) : StX (w.setCell ⟨G, p, none⟩ (.int .i64 x)) base P ⟨s.ws, s.rs, upd s.col p x⟩ A c B d (some ⟨G, 0, none⟩) N e := by
  have hGP : P ≠ G := fun e => own_ne_blk h.cols h.blk (by decide) (by rw [e]; rfl)
  refine ⟨h.blk.far (by dsimp only; exact hGP) _, h.row.keep (by simp) (fun a ha => Below.heap_setCell _ _ _ _ (by dsimp only; exact h.neC a G ha rfl)), h.cap, h.own.setCell ⟨G, p, none⟩ (fun e => h.neBC G e rfl) _, ?_, h.num, h.neB, h.neC, h.neBC, h.lo, hk, h.i64, h.len⟩
  have := h.cols.put p x
  rw [colRow_set] at this
  exact this
end
theorem st_word (o : Int) (w : World) (h1 : -9223372036854775808 ≤ o) (h2 : o ≤ 9223372036854775807) : Calls Try.prog 34 #[.int .i64 o] w fun e w' => e = .returned (.int .i64 (kd o)) ∧ w = w' := rkind_any o w h1 h2

section
variable (s : TSt) (o : Int) (base P : Nat) (A : Option Addr) (c : Nat) (B : Option Addr) (d : Nat) (C : Option Addr) (N e : Nat) (w : World) (h : StX w base P s A c B d C N e)
include h
/-- Shaded: the same rows. -/
def ShadedEnd (base P : Nat) (s : TSt) (A : Option Addr) (c : Nat) (B : Option Addr) (d : Nat) (C : Option Addr) (N e : Nat) (w : World) (en : Ending) (w' : World) : Prop :=
  en = .returned (.tuple #[]) ∧ StX w' base P s A c B d C N e ∧ Below base w w' ∧ Turned w w' (fun k => (Value.slice C N e).ownBlock = some k)

set_option maxRecDepth 100000 in
set_option maxHeartbeats 4000000 in
theorem sshade_any (hf : fitsB s.ws o = true) : Calls Try.prog 143 #[.pointer (some ⟨P, 0, none⟩), .int .i64 o] w (ShadedEnd base P ⟨s.ws, s.rs, shadeC s.col o⟩ A c B d C N e w) := by
  obtain ⟨i1, i2⟩ := fit_in hf
  obtain ⟨x1, x2, x3, x4, x5, x6, x7⟩ := h.blk.f3
  have HS := Lib.hid h
  have hq := h.num
  have hq1 := h.tok.ok.most
  obtain ⟨G, rfl, hg1, hg2, -, hg4⟩ := h.cols.some_ (by rw [colRow_len]; omega)
  obtain ⟨sk1, sk2⟩ := shade_ok h.tok.three h.tok.pl hf
  have HSK := Lib.hid (And.intro sk1 sk2)
  by_cases hk : kd o = 3
  · obtain ⟨r1, r2, r3, r4⟩ := th_range hk
    have hpl := fits_pl hf hk
    have hlt := (places_mem hpl).2.1
    have hkb : (kd o == 3) = true := by rw [hk]; rfl
    have hwp : IntKind.i64.wrap ((pcl o : Nat) : Int) = ((pcl o : Nat) : Int) := IntWalk.i64_in _ (by omega)
    have e1 := h.cols.cell (pcl o) (by rw [colRow_len]; omega)
    rw [colRow_nth (by omega)] at e1
    have f1 := h.cols.frz (pcl o)
    have hnl : pcl o < N := by omega
    by_cases hc : s.col (pcl o) = 0
    · have HE : Hid (shadeC s.col o = upd s.col (pcl o) 1) := by show _ = _; unfold shadeC; rw [if_pos ⟨hk, hc⟩]
      rw [hc] at e1
      clear hk hc hpl hf h
      go_enter Try.func143, Try.ntmps143
      go_wp2_with (go_at_call 34; refine (st_word _ _ i1 i2).mono ?_; rintro e w' ⟨rfl, rfl⟩)
      go_end0
      have htk : TOk ⟨s.ws, s.rs, upd s.col (pcl o) 1⟩ := ⟨HS.out.tok.ok, HS.out.tok.fit, by rw [← HE.out]; exact HSK.out.1, by rw [← HE.out]; exact HSK.out.2⟩
      refine ⟨rfl, by rw [HE.out]; exact HS.out.paint htk, (Below.refl _ _).setCell hg1 _, Turned.setCell (S := fun k => (Value.slice (some ⟨G, 0, none⟩) N e).ownBlock = some k) (Turned.refl _ _) (p := ⟨G, pcl o, none⟩) (.inl rfl) _⟩
    · have HE : Hid (shadeC s.col o = s.col) := by show _ = _; unfold shadeC; rw [if_neg (fun h => hc h.2)]
      have hcb : (s.col (pcl o) == 0) = false := by simpa using hc
      clear hk hc hpl hf h
      generalize s.col (pcl o) = cc at *
      go_enter Try.func143, Try.ntmps143
      go_wp2_with (go_at_call 34; refine (st_word _ _ i1 i2).mono ?_; rintro e w' ⟨rfl, rfl⟩)
      go_end0
      exact ⟨rfl, by rw [HE.out]; exact HS.out, Below.refl _ _, Turned.refl _ _⟩
  · have hkb : (kd o == 3) = false := by simpa using hk
    have HE : Hid (shadeC s.col o = s.col) := by show _ = _; unfold shadeC; rw [if_neg (fun h => hk h.1)]
    clear hk hf h
    go_enter Try.func143, Try.ntmps143
    go_wp2_with (go_at_call 34; refine (st_word _ _ i1 i2).mono ?_; rintro e w' ⟨rfl, rfl⟩)
    go_end0
    exact ⟨rfl, by rw [HE.out]; exact HS.out, Below.refl _ _, Turned.refl _ _⟩

set_option maxRecDepth 100000 in
set_option maxHeartbeats 4000000 in
theorem sreached_any (h1 : -9223372036854775808 ≤ o) (h2 : o ≤ 9223372036854775807) : Calls Try.prog 162 #[.pointer (some ⟨P, 0, none⟩), .int .i64 o] w fun e w' => e = .returned (.bool (hereB s.ws s.rs o)) ∧ Below w.heap.size w w' := by
  obtain ⟨x1, x2, x3, x4, x5, x6, x7⟩ := h.blk.f3
  have hq0 := h.tok.ok.two
  have hq1 := h.tok.ok.most
  obtain ⟨b, ob, rfl, hlt, hrow⟩ := h.row (by omega)
  have HFI := Lib.hid (rfits_any s.ws b ob c w hrow h.i64 (by omega) h.tok.ok.bad o h1 h2)
  have hri : I64 s.rs := fun j => by
    rcases Nat.lt_or_ge j s.rs.length with hj | hj
    · rw [nth_eq hj]; exact fit_in (h.tok.fit _ (List.getElem_mem hj))
    · rw [nth_out hj]; omega
  have HRR := Lib.hid (rreach_any s.ws s.rs b ob c B d w.drew hrow hlt h.tok.ok h.i64 ((own_fst h.own).1.drewN 1) hri (by have := h.len; omega) h.tok.fit)
  have HRC := Lib.hid (rchB_iff h.tok.ok h.tok.fit (pcl o))
  cases hf : fitsB s.ws o
  · have HE : Hid (hereB s.ws s.rs o = false) := by show _ = _; unfold hereB; rw [hf]; rfl
    rw [hf] at HFI
    clear hf h hrow hri
    go_enter Try.func162, Try.ntmps162
    go_wp2_with (go_at_call 102; refine HFI.out.mono ?_; rintro e w' ⟨rfl, rfl⟩)
    go_ret
    exact ⟨ret_bool HE.out.symm, Below.refl _ _⟩
  · rw [hf] at HFI
    by_cases hk : kd o = 3
    · obtain ⟨r1, r2, r3, r4⟩ := th_range hk
      have HE : Hid (hereB s.ws s.rs o = rchB s.ws s.rs (pcl o)) := by show _ = _; unfold hereB; rw [hf, hk]; rfl
      have hkb : (kd o != 3) = false := by rw [hk]; rfl
      have hwp : IntKind.i64.wrap ((pcl o : Nat) : Int) = ((pcl o : Nat) : Int) := IntWalk.i64_in _ (by omega)
      have hpw := (places_mem (fits_pl hf hk)).2.1
      clear hf hk h hrow hri
      go_enter Try.func162, Try.ntmps162
      go_wp2_with (first
        | (go_at_call 102; refine HFI.out.mono ?_; rintro e w' ⟨rfl, rfl⟩)
        | (go_at_call 34; refine (st_word _ _ h1 h2).mono ?_; rintro e w' ⟨rfl, rfl⟩))
      go_still_tail 8, (by kernel_rfl)
      change wpList _ _ _ _ _ (World.drew w)
      go_wp2_with fail
      refine HRR.out.mono ?_
      rintro e w5 ⟨f, G, hte, rfl, hob, hb5⟩
      have e1 := hob.cell (pcl o) hpw
      have HTE := Lib.hid (hte (pcl o))
      have HB5 := Lib.hid (below_of_drew hb5)
      clear hte hob hb5
      generalize f (pcl o) = fv at *
      go_wp2_with fail
      go_ret
      refine ⟨ret_bool ?_, HB5.out⟩
      rw [HE.out, Bool.eq_iff_iff, HRC.out, HTE.out]
    · have hkb : (kd o != 3) = true := by simpa using hk
      have HE : Hid (hereB s.ws s.rs o = true) := by show _ = _; unfold hereB; rw [hf, hkb]; rfl
      clear hf hk h hrow hri
      go_enter Try.func162, Try.ntmps162
      go_wp2_with (first
        | (go_at_call 102; refine HFI.out.mono ?_; rintro e w' ⟨rfl, rfl⟩)
        | (go_at_call 34; refine (st_word _ _ h1 h2).mono ?_; rintro e w' ⟨rfl, rfl⟩))
      go_ret
      exact ⟨ret_bool HE.out.symm, Below.refl _ _⟩
end
end Go.Proofs.Ytjpppdacamhhfaa

namespace Go.Proofs.Ytjpppdacamhhfaa
open Go.RowKit
set_option linter.unusedVariables false

/-- Black first, then shaded: the same. -/
theorem paint_first {col : Nat → Int} {p : Nat} (h : col p = 1) : ∀ (l : List Int), shades (upd col p 2) l = upd (shades col l) p 2 := fun l => by
  funext q
  rw [shades_at]
  by_cases e : q = p
  · subst e; rw [upd_same, if_neg (by omega), upd_same]
  · rw [upd_ne _ _ e, upd_ne _ _ e, shades_at]
theorem scan_same {ws : List Int} {col : Nat → Int} {p : Nat} (h : greyAt ws col = some p) : scanC ws col = shades (upd col p 2) (holdsL ws p) := by
  rw [scan_some h, paint_first (grey_some h).2]

theorem grey_split {ws : List Int} {col : Nat → Int} {pre rest : List Nat} {p : Nat} (hp : places ws = pre ++ p :: rest) (h : ∀ q ∈ pre, col q ≠ 1) (h1 : col p = 1) : greyAt ws col = some p := by
  unfold greyAt
  rw [hp, List.find?_append]
  have : pre.find? (fun p => col p == 1) = none := List.find?_eq_none.2 (fun q hq => by simpa using h q hq)
  rw [this]
  simp [h1]
theorem grey_pre {ws : List Int} {col : Nat → Int} (h : ∀ q ∈ places ws, col q ≠ 1) : greyAt ws col = none := by
  unfold greyAt
  exact List.find?_eq_none.2 (fun q hq => by simpa using h q hq)
theorem black_tok {s : TSt} (h : TOk s) {p : Nat} (hp : p ∈ places s.ws) : TOk ⟨s.ws, s.rs, upd s.col p 2⟩ := by
  refine ⟨h.ok, h.fit, fun q => ?_, fun q hq => ?_⟩
  · by_cases e : q = p
    · subst e; exact .inr (.inr (upd_same ..))
    · show upd s.col p 2 q = 0 ∨ upd s.col p 2 q = 1 ∨ upd s.col p 2 q = 2
      rw [upd_ne _ _ e]; exact h.three q
  · by_cases e : q = p
    · subst e; exact hp
    · have hq : upd s.col p 2 q ≠ 0 := hq
      rw [upd_ne _ _ e] at hq; exact h.pl q hq

section
variable (s : TSt) (op : TOp) (base P : Nat) (A : Option Addr) (c : Nat) (B : Option Addr) (d : Nat) (C : Option Addr) (N e : Nat) (w : World) (h : StX w base P s A c B d C N e)
include h

set_option maxRecDepth 100000 in
set_option maxHeartbeats 4000000 in
theorem do_scan (hk : op.k = 1) : Calls Try.prog 144 #[.pointer (some ⟨P, 0, none⟩), opV op] w (StEnd base P (doT s op) w) := by
  have hx0 : Below w.heap.size w (w.alloc (.cells #[.int .i64 op.k, .int .i64 op.o, .int .i64 op.a, .int .i64 op.w, .int .i64 op.f, .int .i64 op.s] 100)) := (Below.refl _ _).alloc (Nat.le_refl _) _
  have HX0 := Lib.hid (hx0.mono h.base_le)
  have HPL := Lib.hid (h.move hx0)
  have hq0 := h.tok.ok.two
  have hq1 := h.tok.ok.most
  have hnum := h.num
  generalize hT : doT s op = T
  have HT := Lib.hid (hT.symm.trans (doT_scan hk))
  have k1 : (op.k == 1) = true := by rw [hk]; rfl
  have HOK := Lib.hid h.tok.ok; have HW := Lib.hid h.i64; have HTOK := Lib.hid h.tok
  clear hx0 h hk hT
  obtain ⟨x1, x2, x3, x4, x5, x6, x7⟩ := HPL.out.blk.f3
  unfold opV
  go_enter Try.func144, Try.ntmps144
  go_wp2_with fail
  generalize (w.alloc (.cells #[.int .i64 op.k, .int .i64 op.o, .int .i64 op.a, .int .i64 op.w, .int .i64 op.f, .int .i64 op.s] 100)) = w1 at *
  obtain ⟨b, ob, rfl, hlt, hrow⟩ := HPL.out.row (by omega)
  obtain ⟨G, rfl, hg1, hg2, -, hg4⟩ := HPL.out.cols.some_ (by rw [colRow_len]; omega)
  have HROW := Lib.hid hrow
  have hbG : b ≠ G := HPL.out.neC _ G rfl rfl
  have e3 := HPL.out.cols
  have HCW := Lib.hid (fun q (hq : q < N) => (show w1.cell? ⟨G, q, none⟩ = some (.int .i64 (s.col q)) by rw [HPL.out.cols.cell q (by rw [colRow_len]; exact hq), colRow_nth hq]))
  clear hrow e3
  go_loopw [5] (fun i wr => ∃ (p : Nat) (pre : List Nat), i = .int .i64 p ∧ 2 ≤ p ∧ p ≤ 200000 ∧ badFrom s.ws p = none ∧ places s.ws = pre ++ plFrom s.ws p ∧ (∀ q ∈ pre, s.col q ≠ 1) ∧ w1 = wr) (fun i _ => s.ws.length - (intOf i).toNat)
  case atStart => exact ⟨2, [], rfl, by omega, by omega, HOK.out.bad, places_eq s.ws, fun q hq => by simp at hq, rfl⟩
  case round =>
    obtain ⟨p, pre, rfl, hp2, hp4, hbd, hpl, hall, rfl⟩ := hrel
    have HBD := Lib.hid hbd; have HPLS := Lib.hid hpl; have HALL := Lib.hid hall
    clear hbd hpl hall
    by_cases hpw : p < s.ws.length
    · obtain ⟨hbad, hnx⟩ := badFrom_none HBD.out hpw
      obtain ⟨n1, n2, n3, n4, n5⟩ := not_bad hbad
      have hpl2 : places s.ws = pre ++ p :: plFrom s.ws (nxt s.ws p) := by rw [HPLS.out, plFrom_ok hpw hbad]
      have HPL2 := Lib.hid hpl2
      have hcast := Lib.hid (nxt_cast hbad)
      have HNX := Lib.hid hnx; have HBAD := Lib.hid hbad
      have hnl := nxt_le hbad
      have hnxe : nxt s.ws p = p + 3 + slotsN s.ws p := rfl
      have hsd : ((slotsN s.ws p : Nat) : Int) = nth s.ws (p + 2) / 4 := by unfold slotsN; omega
      have HSD := Lib.hid hsd
      have hc0 := HROW.out p hpw
      have hc2 := HROW.out (p + 2) (by omega)
      have hcc := HCW.out p (by omega)
      have hff := HPL.out.cols.frz p
      have hnp : p < N := by omega
      obtain ⟨u1, u2⟩ := HW.out (p + 2)
      clear hbad hnx hpl2 hsd
      by_cases hcol : s.col p = 1
      case neg =>
        have hcb : (s.col p == 1) = false := by simpa using hcol
        have HNN : Hid (∀ q ∈ pre ++ [p], s.col q ≠ 1) := fun q hq => by
          rcases List.mem_append.1 hq with h | h
          · exact HALL.out q h
          · rw [List.mem_singleton] at h; subst h; exact hcol
        clear hcol
        generalize s.col p = cp at *
        go_wp2_with fail
        go_roundw
        case rel => exact ⟨nxt s.ws p, pre ++ [p], by rw [hcast.out], by omega, by omega, HNX.out, by rw [HPL2.out]; simp, HNN.out, (by first | rfl | trivial)⟩
        case measure => simp [intOf]; omega
      have hgr := grey_split HPL2.out HALL.out hcol
      have HTS : Hid (T = ⟨s.ws, s.rs, shades (upd s.col p 2) (holdsL s.ws p)⟩) := by show _ = _; rw [HT.out, scan_same hgr]
      have hpm := (grey_some hgr).1
      have HPM := Lib.hid hpm
      rw [hcol] at hcc
      have hst := HPL.out.paint (p := p) (x := 2) (black_tok HTOK.out hpm)
      have HS5 := Lib.hid hst
      have HX5 := Lib.hid (HX0.out.setCell (p := ⟨G, p, none⟩) hg1 (.int .i64 2))
      have hcf := class_fits HOK.out hpm
      have HSH := Lib.hid (sshade_any _ (nth s.ws p) base P _ c B d _ N e _ hst hcf)
      have hc05 : (w1.setCell ⟨G, p, none⟩ (.int .i64 2)).cell? ⟨b, ob + p, none⟩ = some (.int .i64 (nth s.ws p)) := (World.cell?_of_block (a := ⟨b, ob + p, none⟩) (Below.heap_setCell _ _ _ _ hbG)).trans hc0
      clear hst hpm hcf hgr hcol
      go_wp2_with fail
      refine HSH.out.mono ?_
      rintro en w6 ⟨rfl, hs6, hb6, -⟩
      have HS6 := Lib.hid hs6; have HX6 := Lib.hid (HX5.out.trans hb6)
      have HH : Hid (holdsL s.ws p = nth s.ws p :: (if formOf s.ws p = 0 then slotsL s.ws p else [])) := rfl
      have HSLEN := Lib.hid (slotsL_len HBAD.out)
      clear hs6 hb6 hc05 hc0 hc2 hcc hff x1 x2 x3 x4 x5 x6 x7 HSH
      go_wp2_with fail
      go_loopw [6] (fun i wr => ∃ k : Nat, i = .int .i64 ((p + 3 + k : Nat) : Int) ∧ k ≤ slotsN s.ws p ∧ (formOf s.ws p ≠ 0 → k = 0) ∧ StX wr base P ⟨s.ws, s.rs, shades (shadeC (upd s.col p 2) (nth s.ws p)) ((slotsL s.ws p).take k)⟩ (some ⟨b, ob, none⟩) c B d (some ⟨G, 0, none⟩) N e ∧ Below base w wr) (fun i _ => 3000 - (intOf i).toNat)
      case atStart => exact ⟨0, by go_num, Nat.zero_le _, fun _ => rfl, HS6.out, HX6.out⟩
      case round =>
        obtain ⟨k, rfl, hk, hform, hsk, hxk⟩ := hrel
        have HFORM := Lib.hid hform; have HSK := Lib.hid hsk; have HXK := Lib.hid hxk
        obtain ⟨b7, o7, e7, -, hR⟩ := hsk.row (by dsimp only; omega)
        cases e7
        have hc2 := hR (p + 2) (by dsimp only; omega)
        have hxb := hsk.base_le
        clear hform hsk hxk
        by_cases hgo : k < slotsN s.ws p ∧ formOf s.ws p = 0
        · obtain ⟨hkl, hf0⟩ := hgo
          have hjl' : (p : Int) + 3 + k < (p : Int) + 3 + nth s.ws (p + 2) / 4 := by have := HSD.out; omega
          have hm0 : (nth s.ws (p + 2) % 4 == 0) = true := by have h9 : nth s.ws (p + 2) % 4 = 0 := hf0; simpa using h9
          have hcl9 := hR (p + 3 + k) (by dsimp only; omega)
          have hcf := slot_fits HOK.out HPM.out (by rw [hf0]; decide) hkl
          have hjs : k < (slotsL s.ws p).length := by rw [HSLEN.out]; exact hkl
          have HTK := Lib.hid (shades_take (col := shadeC (upd s.col p 2) (nth s.ws p)) hjs)
          have HNS := Lib.hid (slotsL_nth HBAD.out hkl)
          have HF0 := Lib.hid hf0
          have HSH := Lib.hid (sshade_any _ (nth s.ws (p + 3 + k)) base P _ c B d _ N e wr HSK.out hcf)
          clear hcf hf0 hR hjs
          go_wp2_with fail
          refine HSH.out.mono ?_
          rintro en w8 ⟨rfl, hs8, hb8, -⟩
          have HS8 := Lib.hid hs8; have HX8 := Lib.hid (HXK.out.trans hb8)
          clear hs8 hb8 hcl9 hc2 HSH
          go_wp2_with fail
          go_roundw
          case rel => exact ⟨k + 1, by go_num, by omega, fun h => absurd HF0.out h, by rw [HTK.out, HNS.out]; exact HS8.out, HX8.out⟩
          case measure => simp [intOf]; omega
        · have hend : shades (shadeC (upd s.col p 2) (nth s.ws p)) ((slotsL s.ws p).take k) = shades (upd s.col p 2) (holdsL s.ws p) := by
            rw [HH.out]
            by_cases hf0 : formOf s.ws p = 0
            · have : k = slotsN s.ws p := by
                have : ¬ k < slotsN s.ws p := fun h => hgo ⟨h, hf0⟩
                omega
              rw [if_pos hf0, this, ← HSLEN.out, List.take_length]; rfl
            · rw [if_neg hf0, HFORM.out hf0, List.take_zero]; rfl
          have hsf := HSK.out
          rw [hend] at hsf
          have HSF := Lib.hid hsf
          clear hend hsf hR
          by_cases hkl : k < slotsN s.ws p
          · have hjl' : (p : Int) + 3 + k < (p : Int) + 3 + nth s.ws (p + 2) / 4 := by have := HSD.out; omega
            have hm0 : (nth s.ws (p + 2) % 4 == 0) = false := by
              have h9 : ¬ nth s.ws (p + 2) % 4 = 0 := fun h => hgo ⟨hkl, h⟩
              simpa using h9
            clear hgo
            go_wp2_with fail
            go_end0
            exact ⟨rfl, by rw [HTS.out]; exact ⟨_, _, _, _, _, _, _, HSF.out⟩, HXK.out⟩
          · have hjl' : ¬ (p : Int) + 3 + k < (p : Int) + 3 + nth s.ws (p + 2) / 4 := by have := HSD.out; omega
            clear hgo
            go_wp2_with fail
            go_end0
            exact ⟨rfl, by rw [HTS.out]; exact ⟨_, _, _, _, _, _, _, HSF.out⟩, HXK.out⟩
    · have hpe : places s.ws = pre := by rw [HPLS.out, plFrom_end (by omega), List.append_nil]
      have HTS : Hid (T = s) := by
        show _ = _
        rw [HT.out, scan_none (grey_pre (by rw [hpe]; exact HALL.out))]
      go_wp2_with fail
      go_end0
      exact ⟨rfl, by rw [HTS.out]; exact ⟨_, _, _, _, _, _, _, HPL.out⟩, HX0.out⟩

set_option maxRecDepth 100000 in
set_option maxHeartbeats 4000000 in
theorem do_root (ho : OpIn op) (hk : op.k = 4) : Calls Try.prog 144 #[.pointer (some ⟨P, 0, none⟩), opV op] w (StEnd base P (doT s op) w) := by
  have hx0 : Below w.heap.size w (w.alloc (.cells #[.int .i64 op.k, .int .i64 op.o, .int .i64 op.a, .int .i64 op.w, .int .i64 op.f, .int .i64 op.s] 100)) := (Below.refl _ _).alloc (Nat.le_refl _) _
  have HX0 := Lib.hid (hx0.mono h.base_le)
  have HPL := Lib.hid (h.move hx0)
  have HOB := Lib.hid (Blk.new w 100 #[.int .i64 op.k, .int .i64 op.o, .int .i64 op.a, .int .i64 op.w, .int .i64 op.f, .int .i64 op.s])
  have hrl := h.len
  obtain ⟨a1, a2⟩ := ho.a; obtain ⟨w1', w2'⟩ := ho.w
  generalize hT : doT s op = T
  have HT := Lib.hid (hT.symm.trans (doT_root hk))
  have k1 : (op.k == 1) = false := by rw [hk]; rfl
  have k2 : (op.k == 2) = false := by rw [hk]; rfl
  have k3 : (op.k == 3) = false := by rw [hk]; rfl
  have k4 : (op.k == 4) = true := by rw [hk]; rfl
  obtain ⟨x1, x2, x3, x4, x5, x6, x7⟩ := HPL.out.blk.f3
  obtain ⟨y1, y2, y3, y4, y5, y6, y7⟩ := HOB.out.f6
  have HRE := Lib.hid (sreached_any s op.w base P A c B d C N e _ HPL.out w1' w2')
  clear hx0 h ho hk hT
  unfold opV
  go_enter Try.func144, Try.ntmps144
  go_wp2_with fail
  generalize (w.alloc (.cells #[.int .i64 op.k, .int .i64 op.o, .int .i64 op.a, .int .i64 op.w, .int .i64 op.f, .int .i64 op.s] 100)) = w1 at *
  generalize w.heap.size = O at *
  refine HRE.out.mono ?_
  rintro en w4 ⟨rfl, hb4⟩
  have HPL4 := Lib.hid (HPL.out.move hb4); have HOB4 := Lib.hid (HOB.out.below hb4 HOB.out.lt)
  have HX4 := Lib.hid (HX0.out.trans (hb4.mono HPL.out.base_le))
  clear hb4 x1 x2 x3 x4 x5 x6 x7 y1 y2 y3 y4 y5 y6 y7 HRE
  obtain ⟨x1, x2, x3, x4, x5, x6, x7⟩ := HPL4.out.blk.f3
  obtain ⟨y1, y2, y3, y4, y5, y6, y7⟩ := HOB4.out.f6
  by_cases h0 : op.a < 0
  · have HTE : Hid (T = s) := by show _ = _; rw [HT.out, if_neg (by omega)]
    have hd0 : decide (op.a < 0) = true := decide_eq_true h0
    go_wp2_with fail
    go_quiet (fail)
    go_wp2_with fail
    go_end0
    exact ⟨rfl, by rw [HTE.out]; exact ⟨_, _, _, _, _, _, _, HPL4.out.move (belowN _ _ _)⟩, HX4.out.trans (belowN _ _ _)⟩
  have h0' : 0 ≤ op.a := by omega
  have hd0 : decide (op.a < 0) = false := decide_eq_false (by omega)
  by_cases hl : (s.rs.length : Int) ≤ op.a
  · have HTE : Hid (T = s) := by show _ = _; rw [HT.out, if_neg (by omega)]
    have hld : decide ((s.rs.length : Int) ≤ op.a) = true := decide_eq_true hl
    clear h0
    go_wp2_with fail
    go_quiet (fail)
    go_wp2_with fail
    go_end0
    exact ⟨rfl, by rw [HTE.out]; exact ⟨_, _, _, _, _, _, _, HPL4.out.move (belowN _ _ _)⟩, HX4.out.trans (belowN _ _ _)⟩
  have hl' : op.a < (s.rs.length : Int) := by omega
  have hld : decide ((s.rs.length : Int) ≤ op.a) = false := decide_eq_false hl
  clear h0 hl
  cases hh : hereB s.ws s.rs op.w
  · have HTE : Hid (T = s) := by show _ = _; rw [HT.out, hh, if_neg (by simp)]
    clear hh
    go_wp2_with fail
    go_quiet (fail)
    go_wp2_with fail
    go_end0
    exact ⟨rfl, by rw [HTE.out]; exact ⟨_, _, _, _, _, _, _, HPL4.out.move (belowN _ _ _)⟩, HX4.out.trans (belowN _ _ _)⟩
  have hT : T = ⟨s.ws, s.rs.set op.a.toNat op.w, shadeC s.col (nth s.rs op.a.toNat)⟩ := by rw [HT.out, if_pos ⟨h0', hl', hh⟩]; rfl
  have HTE := Lib.hid hT
  have HTK := Lib.hid (rootS_tok HPL4.out.tok h0' hl' hh)
  have hrf := root_fit (op := op) HPL4.out.tok h0' hl'
  obtain ⟨gB, rfl, hg1, -, -, hg3⟩ := HPL4.out.own.some_ (by omega)
  clear hT hh
  go_wp2_with fail
  go_quiet (fail)
  have HPL5 := Lib.hid (HPL4.out.move (belowN w4.heap.size w4 nq)); have HOB5 := Lib.hid (HOB4.out.drewN nq)
  have HX5 := Lib.hid (HX4.out.trans (belowN base w4 nq))
  clear x1 x2 x3 x4 x5 x6 x7 y1 y2 y3 y4 y5 y6 y7 HPL4 HOB4 HX4
  generalize w4.drewN nq = w5 at *
  obtain ⟨x1, x2, x3, x4, x5, x6, x7⟩ := HPL5.out.blk.f3
  obtain ⟨y1, y2, y3, y4, y5, y6, y7⟩ := HOB5.out.f6
  have e1 := HPL5.out.own.cell op.a.toNat (by omega)
  have HSV : Hid (nth s.rs op.a.toNat = nth s.rs op.a.toNat) := rfl
  have HSH := Lib.hid (sshade_any s (nth s.rs op.a.toNat) base P A c _ d C N e w5.drew (HPL5.out.move (Below.refl _ _).drew) hrf)
  clear hd0 hld hrf
  go_wp2_with fail
  go_still_tail 9, (by kernel_rfl)
  change wpList _ _ _ _ _ (World.drew w5)
  go_wp2_with fail
  refine HSH.out.mono ?_
  rintro en w6 ⟨rfl, hs6, hb6, ht6⟩
  have HPL6 := Lib.hid hs6
  have HOB6 := Lib.hid (ht6.blk (show Blk w5.drew _ _ _ from HOB5.out) (fun e => own_ne_blk (HPL5.out.cols) HOB5.out (by decide) e))
  have HX6 := Lib.hid (HX5.out.trans (below_of_drew hb6))
  clear hs6 hb6 ht6 HSH x1 x2 x3 x4 x5 x6 x7 y1 y2 y3 y4 y5 y6 y7 e1
  obtain ⟨x1, x2, x3, x4, x5, x6, x7⟩ := HPL6.out.blk.f3
  obtain ⟨y1, y2, y3, y4, y5, y6, y7⟩ := HOB6.out.f6
  have e1 := HPL6.out.own.cell op.a.toNat (by dsimp only; omega)
  have f1 := HPL6.out.own.frz op.a.toNat
  dsimp only at e1
  go_wp2_with fail
  go_region
  refine open_world2 (fun W => W = w6.setCell ⟨gB, op.a.toNat, none⟩ (.int .i64 op.w) ∨ W = (w6.setCell ⟨gB, op.a.toNat, none⟩ (.int .i64 op.w)).drew) (.inr rfl) ?_
  rintro w7 hw7
  have hgP : P ≠ gB := fun e => own_ne_blk HPL6.out.own HPL6.out.blk (by decide) (by rw [e]; rfl)
  have hpx : StX (w6.setCell ⟨gB, op.a.toNat, none⟩ (.int .i64 op.w)) base P ⟨s.ws, s.rs.set op.a.toNat op.w, shadeC s.col (nth s.rs op.a.toNat)⟩ A c (some ⟨gB, 0, none⟩) d C N e := by
    refine ⟨?_, HPL6.out.row.keep (by simp) (fun a ha => Below.heap_setCell _ _ _ _ (by dsimp only; exact HPL6.out.neB a gB ha rfl)), HPL6.out.cap, ?_, HPL6.out.cols.setCell _ (fun e => HPL6.out.neBC gB rfl e) _, HPL6.out.num, ?_, HPL6.out.neC, ?_, HPL6.out.lo, HTK.out, HPL6.out.i64, by simpa using hrl⟩
    · rw [List.length_set]; exact HPL6.out.blk.far (by dsimp only; exact hgP) _
    · rw [List.length_set]; exact HPL6.out.own.put op.a.toNat op.w
    · rw [List.length_set]; exact HPL6.out.neB
    · rw [List.length_set]; exact HPL6.out.neBC
  have hx7 := HX6.out.setCell (p := ⟨gB, op.a.toNat, none⟩) (by dsimp only; exact (HPL6.out.own.block).1) (.int .i64 op.w)
  have HPX : Hid (StX w7 base P ⟨s.ws, s.rs.set op.a.toNat op.w, shadeC s.col (nth s.rs op.a.toNat)⟩ A c (some ⟨gB, 0, none⟩) d C N e) := by
    show StX _ _ _ _ _ _ _ _ _ _ _
    rcases hw7 with rfl | rfl
    · exact hpx
    · exact hpx.move (Below.refl _ _).drew
  have HX7 : Hid (Below base w w7) := by
    show Below _ _ _
    rcases hw7 with rfl | rfl
    · exact hx7
    · exact hx7.drew
  clear hpx hx7 hw7 x1 x2 x3 x4 x5 x6 x7 y1 y2 y3 y4 y5 y6 y7 e1 f1
  go_wp2_with fail
  go_end0
  exact ⟨rfl, by rw [HTE.out]; exact ⟨_, _, _, _, _, _, _, HPX.out⟩, HX7.out⟩
end
end Go.Proofs.Ytjpppdacamhhfaa

namespace Go.Proofs.Ytjpppdacamhhfaa
open Go.RowKit
set_option linter.unusedVariables false

theorem lk_yes {ws : List Int} {s : Int} (h : isTh ws s = true) : lkR ws s = ((nth ws (pcl s), nth ws (pcl s + 1), formOf ws (pcl s)), (slotsL ws (pcl s), 0)) := by unfold lkR; rw [if_pos h]; rfl
/-- A struct of four cells, stored into a block. -/
theorem blk_sto4 {w : World} {R : Nat} {t : TypeId} {a0 b0 c0 d0 : Value} (h : Blk w R t #[a0, b0, c0, d0]) (a b c d : Value) :
    Blk ((((w.setCell ⟨R, 0, none⟩ a).setCell ⟨R, 1, none⟩ b).setCell ⟨R, 2, none⟩ c).setCell ⟨R, 3, none⟩ d) R t #[a, b, c, d] := (((h.set_ 0 a).set_ 1 b).set_ 2 c).set_ 3 d
theorem below_sto4 {w w5 : World} {B R : Nat} (h : Below B w w5) (hR : B ≤ R) (a b c d : Value) :
    Below B w ((((w5.setCell ⟨R, 0, none⟩ a).setCell ⟨R, 1, none⟩ b).setCell ⟨R, 2, none⟩ c).setCell ⟨R, 3, none⟩ d) := (((h.setCell hR _).setCell hR _).setCell hR _).setCell hR _
theorem own_sto4 {w : World} {n R : Nat} {v : Value} {xs : List Int} (h : Own w n v xs) (hR : v.ownBlock ≠ some R) (a b c d : Value) :
    Own ((((w.setCell ⟨R, 0, none⟩ a).setCell ⟨R, 1, none⟩ b).setCell ⟨R, 2, none⟩ c).setCell ⟨R, 3, none⟩ d) n v xs := (((h.setCell _ hR _).setCell _ hR _).setCell _ hR _).setCell _ hR _

section
variable {w : World} {base P : Nat} {s : TSt} {A : Option Addr} {c : Nat} {B : Option Addr} {d : Nat} {C : Option Addr} {N e : Nat}
/-- Another heap: a row of the call's own from n on, above the state's blocks; as long as the one before. -/
theorem StX.heap {n : Nat} {xs : List Int} {A' : Option Addr} {c' l : Nat} (h : StX w base P s A c B d C N e) (ho : Own w n (.slice A' l c') xs) (hP : P < n) (hB : ∀ k, (Value.slice B s.rs.length d).ownBlock = some k → k < n) (hC : ∀ k, (Value.slice C N e).ownBlock = some k → k < n)
    (hl : l = xs.length) (hN : xs.length < N) (hk : TOk ⟨xs, s.rs, s.col⟩) (hi : I64 xs) :
    StX (w.setCell ⟨P, 0, none⟩ (.slice A' l c')) base P ⟨xs, s.rs, s.col⟩ A' c' B d C N e := by
  subst hl
  have hA : ∀ a, A' = some a → n ≤ a.block := own_lob ho
  have ho2 := ho.setCell ⟨P, 0, none⟩ (by intro e; have := (ho.lt _ e).1; dsimp only at this; omega) (.slice A' xs.length c')
  refine ⟨h.blk.set_ 0 _, (own_fst ho2).1, (own_fst ho).2, h.own.setCell _ (own_ne_blk h.own h.blk (by decide)) _, h.cols.setCell _ (own_ne_blk h.cols h.blk (by decide)) _, hN, fun a k ha hk' => ?_, fun a k ha hk' => ?_, h.neBC, h.lo, hk, hi, h.len⟩
  · have := hA a ha; have := hB k hk'; omega
  · have := hA a ha; have := hC k hk'; omega
end

/-- A thing told, written out. -/
def LookW (ws : List Int) (p : Nat) (w : World) (e : Ending) (w' : World) : Prop :=
  Below w.heap.size w w' ∧ ∃ A c, e = .returned (.tuple #[.agg #[.int .i64 (nth ws p), .int .i64 (nth ws (p + 1)), .int .i64 (formOf ws p), .slice A (slotsL ws p).length c], .int .i64 0]) ∧ Own w' w.heap.size (.slice A (slotsL ws p).length c) (slotsL ws p)
theorem lookW_of {ws : List Int} {x : Int} {w w' : World} {e : Ending} (h : isTh ws x = true) (hu : LookU (lkR ws x) w e w') : LookW ws (pcl x) w e w' := by
  rw [lk_yes h] at hu; exact hu

section
variable (s : TSt) (op : TOp) (base P : Nat) (A : Option Addr) (c : Nat) (B : Option Addr) (d : Nat) (C : Option Addr) (N e : Nat) (w : World) (h : StX w base P s A c B d C N e)
include h

set_option maxRecDepth 100000 in
set_option maxHeartbeats 4000000 in
theorem do_put (ho : OpIn op) (hk : op.k = 2) : Calls Try.prog 144 #[.pointer (some ⟨P, 0, none⟩), opV op] w (StEnd base P (doT s op) w) := by
  have hx0 : Below w.heap.size w (w.alloc (.cells #[.int .i64 op.k, .int .i64 op.o, .int .i64 op.a, .int .i64 op.w, .int .i64 op.f, .int .i64 op.s] 100)) := (Below.refl _ _).alloc (Nat.le_refl _) _
  have HX0 := Lib.hid (hx0.mono h.base_le)
  have HPL := Lib.hid (h.move hx0)
  have HOB := Lib.hid (Blk.new w 100 #[.int .i64 op.k, .int .i64 op.o, .int .i64 op.a, .int .i64 op.w, .int .i64 op.f, .int .i64 op.s])
  have hq1 := h.tok.ok.most
  have hq0 := h.tok.ok.two
  have hrl := h.len
  have hnum := h.num
  obtain ⟨o1, o2⟩ := ho.o; obtain ⟨a1, a2⟩ := ho.a; obtain ⟨w1', w2'⟩ := ho.w
  generalize hT : doT s op = T
  have HT := Lib.hid (hT.symm.trans (doT_put hk))
  have k1 : (op.k == 1) = false := by rw [hk]; rfl
  have k2 : (op.k == 2) = true := by rw [hk]; rfl
  clear hx0 h ho hk hT
  unfold opV
  go_enter Try.func144, Try.ntmps144
  go_wp2_with fail
  generalize (w.alloc (.cells #[.int .i64 op.k, .int .i64 op.o, .int .i64 op.a, .int .i64 op.w, .int .i64 op.f, .int .i64 op.s] 100)) = w1 at *
  generalize w.heap.size = O at *
  obtain ⟨b, ob, rfl, hlt, hrow⟩ := HPL.out.row (by omega)
  obtain ⟨x1, x2, x3, x4, x5, x6, x7⟩ := HPL.out.blk.f3
  obtain ⟨y1, y2, y3, y4, y5, y6, y7⟩ := HOB.out.f6
  have hPw : P < w1.heap.size := HPL.out.blk.lt
  have HBw := Lib.hid (fun k hk => (HPL.out.own.lt k hk).2); have HCw := Lib.hid (fun k hk => (HPL.out.cols.lt k hk).2)
  have hct : ∀ W, Below w1.heap.size w1 W → Calls Try.prog 52 #[.agg #[.slice (some ⟨b, ob, none⟩) s.ws.length c], .int .i64 op.o, .int .i64 op.a, .int .i64 op.w] W (HeapOut2 (putR s.ws op.o op.a op.w) W) := fun W hW =>
    rput_any s.ws b ob c op.o op.a op.w W (hrow.below hW hlt) (Nat.lt_of_lt_of_le hlt hW.size) HPL.out.cap HPL.out.i64 HPL.out.tok.ok o1 o2 a1 a2 w1' w2'
  have HS9 := Lib.hid (fun (W : World) (hB : Below w1.heap.size w1 W) => (⟨(hB.cell (p := ⟨P, 0, none⟩) x7).trans x1, (hB.cell (p := ⟨O, 1, none⟩) y7).trans y2, (hB.cell (p := ⟨O, 2, none⟩) y7).trans y3, (hB.cell (p := ⟨O, 3, none⟩) y7).trans y4⟩ : W.cell? ⟨P, 0, none⟩ = some (.slice (some ⟨b, ob, none⟩) s.ws.length c) ∧ W.cell? ⟨O, 1, none⟩ = some (.int .i64 op.o) ∧ W.cell? ⟨O, 2, none⟩ = some (.int .i64 op.a) ∧ W.cell? ⟨O, 3, none⟩ = some (.int .i64 op.w)))
  have hc0 := hct w1.drew (Below.refl _ _).drew
  have hca := hct ((w1.alloc (.cells #[.slice none 0 0] 33)).drew) (((Below.refl _ _).alloc (Nat.le_refl _) _).drew)
  have hS0 := HS9.out w1.drew (Below.refl _ _).drew
  have hSa := HS9.out ((w1.alloc (.cells #[.slice none 0 0] 33)).drew) (((Below.refl _ _).alloc (Nat.le_refl _) _).drew)
  clear hct hrow
  generalize hr : putR s.ws op.o op.a op.w = r at *
  have HR := Lib.hid hr
  obtain ⟨rd, re⟩ := r
  clear hr
  go_region_held3 (fun W => W.cell? ⟨P, 0, none⟩ = some (.slice (some ⟨b, ob, none⟩) s.ws.length c) ∧ W.cell? ⟨O, 1, none⟩ = some (.int .i64 op.o) ∧ W.cell? ⟨O, 2, none⟩ = some (.int .i64 op.a) ∧ W.cell? ⟨O, 3, none⟩ = some (.int .i64 op.w))
    (first | (with_reducible exact hS0) | (with_reducible exact hSa) | (with_reducible exact hS1) | (with_reducible exact hS2) | go_keep)
    (first
      | (go_at_call 52; (with_reducible refine hc0.mono ?_); rintro e w5 ⟨hb5, A5, c5, rfl, ho5⟩; have hbA := below_of_drew hb5; have hS1 := HS9.out w5 hbA; have hS2 := HS9.out (w5.alloc (.cells #[.slice A5 rd.length c5] 33)) (hbA.alloc hbA.size _))
      | (go_at_call 52; (with_reducible refine hca.mono ?_); rintro e w5 ⟨hb5, A5, c5, rfl, ho5⟩; have hbA := (((Below.refl w1.heap.size w1).alloc (Nat.le_refl _) (.cells #[.slice none 0 0] 33)).trans ((below_of_drew hb5).mono (by simp))); have hS1 := HS9.out w5 hbA; have hzb := ((Blk.new w1 33 #[.slice none 0 0]).below (below_of_drew hb5) (Blk.lt (Blk.new w1 33 #[.slice none 0 0]))); obtain ⟨t1, t2, t3⟩ := hzb.f1; have hS2 := HS9.out (w5.setCell ⟨w1.heap.size, 0, none⟩ (.slice A5 rd.length c5)) (hbA.setCell (Nat.le_refl _) _)))
  all_goals first
    | (refine open_world2 (fun W => Below w1.heap.size w1 W ∧ Blk W w5.heap.size 33 #[.slice A5 rd.length c5] ∧ Own W w1.heap.size (.slice A5 rd.length c5) rd) ⟨hbA.alloc hbA.size (.cells #[.slice A5 rd.length c5] 33), Blk.new w5 33 #[.slice A5 rd.length c5], Own.alloc ho5 (.cells #[.slice A5 rd.length c5] 33)⟩ ?_
       rintro w6 ⟨hb6, hg6, ho6⟩
       have hG : w1.heap.size ≤ w5.heap.size := hbA.size
       generalize w5.heap.size = G at *)
    | (refine open_world2 (fun W => Below w1.heap.size w1 W ∧ Blk W w1.heap.size 33 #[.slice A5 rd.length c5] ∧ Own W w1.heap.size (.slice A5 rd.length c5) rd) ⟨hbA.setCell (Nat.le_refl _) _, hzb.set_ 0 _, (Own.mono (base' := w1.heap.size) ho5 (by simp)).setCell _ (by intro e; have h8 := (ho5.lt _ e).1; have h9 : (w1.alloc (.cells #[.slice none 0 0] 33)).drew.heap.size = w1.heap.size + 1 := World.size_alloc ..; rw [h9] at h8; dsimp only at h8; omega) _⟩ ?_
       rintro w6 ⟨hb6, hg6, ho6⟩
       have hG : w1.heap.size ≤ w1.heap.size := Nat.le_refl _
       generalize hGE : w1.heap.size = G at hg6 hG ⊢
       rw [← hGE] at hG
       clear hGE)
  all_goals
    have HPL6 := Lib.hid (HPL.out.move hb6)
    have HOB6 := Lib.hid (HOB.out.below hb6 HOB.out.lt)
    have HX6 := Lib.hid (HX0.out.trans (hb6.mono HPL.out.base_le))
    have HG6 := Lib.hid hg6; have HO6 := Lib.hid ho6
    have HBS := Lib.hid HPL.out.base_le
    clear hb6 hg6 ho6 hbA hS1 hS2 hS0 hSa hca hc0 HS9 hb5 ho5 x1 x2 x3 x4 x5 x6 x7 y1 y2 y3 y4 y5 y6 y7
    by_cases hE : putE s.ws op.o op.a op.w = 0
    case neg =>
      have h1 : putR s.ws op.o op.a op.w = ([], putE s.ws op.o op.a op.w) := by unfold putR; rw [if_neg hE]
      have h2 := HR.out.symm.trans h1
      simp only [Prod.mk.injEq] at h2
      obtain ⟨rfl, rfl⟩ := h2
      have hT : T = s := by
        rw [HT.out, if_neg]
        intro h; exact hE (put_parts h).1
      have HTE := Lib.hid hT
      have hne : (putE s.ws op.o op.a op.w != 0) = true := by simpa using hE
      clear hE h1 hT
      generalize putE s.ws op.o op.a op.w = E at *
      go_wp2_with fail
      go_end0
      exact ⟨rfl, by rw [HTE.out]; exact ⟨_, _, _, _, _, _, _, HPL6.out⟩, HX6.out⟩
    have h1 : putR s.ws op.o op.a op.w = (putW s.ws op.o op.a op.w, 0) := by unfold putR; rw [if_pos hE]
    have h2 := HR.out.symm.trans h1
    simp only [Prod.mk.injEq] at h2
    obtain ⟨rfl, rfl⟩ := h2
    clear h1
    obtain ⟨ht1, ht2, ht3, ht4⟩ := put_th hE
    have hpb := not_bad (places_mem ht2).2.2
    obtain ⟨b6, ob6, e6, hlt6, hrow6⟩ := HPL6.out.row (by omega)
    cases e6
    obtain ⟨x1, x2, x3, x4, x5, x6, x7⟩ := HPL6.out.blk.f3
    obtain ⟨y1, y2, y3, y4, y5, y6, y7⟩ := HOB6.out.f6
    have hct : ∀ W, Below w6.heap.size w6 W → Calls Try.prog 51 #[.agg #[.slice (some ⟨b, ob, none⟩) s.ws.length c], .int .i64 op.o] W (LookW s.ws (pcl op.o) W) := fun W hW =>
      (rlook_any s.ws b ob c op.o W (hrow6.below hW hlt6) (Nat.lt_of_lt_of_le hlt6 hW.size) HPL6.out.cap HPL6.out.i64 HPL6.out.tok.ok o1 o2).mono fun e w' h => lookW_of ht1 (lookU_R h)
    have HS9 := Lib.hid (fun (W : World) (hB : Below w6.heap.size w6 W) => (⟨(hB.cell (p := ⟨P, 0, none⟩) x7).trans x1, (hB.cell (p := ⟨O, 1, none⟩) y7).trans y2⟩ : W.cell? ⟨P, 0, none⟩ = some (.slice (some ⟨b, ob, none⟩) s.ws.length c) ∧ W.cell? ⟨O, 1, none⟩ = some (.int .i64 op.o)))
    have hc0 := hct w6.drew (Below.refl _ _).drew
    have hca := hct ((w6.alloc (.cells #[.int .i64 0, .int .i64 0, .int .i64 0, .slice none 0 0] 48)).drew) (((Below.refl _ _).alloc (Nat.le_refl _) _).drew)
    have hS0 := HS9.out w6.drew (Below.refl _ _).drew
    have hSa := HS9.out ((w6.alloc (.cells #[.int .i64 0, .int .i64 0, .int .i64 0, .slice none 0 0] 48)).drew) (((Below.refl _ _).alloc (Nat.le_refl _) _).drew)
    have hn1 : P ≠ w6.heap.size := by omega
    have hn2 : O ≠ w6.heap.size := by omega
    have HSLEN := Lib.hid (slotsL_len (places_mem ht2).2.2)
    have HPM := Lib.hid ht2
    have HE := Lib.hid hE
    clear hct hrow6 ht1 ht2 hpb hE
    go_wp2_with fail
    go_region_held3 (fun W => W.cell? ⟨P, 0, none⟩ = some (.slice (some ⟨b, ob, none⟩) s.ws.length c) ∧ W.cell? ⟨O, 1, none⟩ = some (.int .i64 op.o))
      (first | (with_reducible exact hS0) | (with_reducible exact hSa) | (with_reducible exact hS1) | (with_reducible exact hS2) | go_keep)
      (first
        | (go_at_call 51; (with_reducible refine hc0.mono ?_); rintro e w7 ⟨hb7, A7, c7, rfl, ho7⟩; have hbA := below_of_drew hb7; have hS1 := HS9.out w7 hbA; have hS2 := HS9.out _ (hbA.alloc hbA.size (.cells #[.int .i64 (nth s.ws (pcl op.o)), .int .i64 (nth s.ws (pcl op.o + 1)), .int .i64 (formOf s.ws (pcl op.o)), .slice A7 (slotsL s.ws (pcl op.o)).length c7] 48)))
        | (go_at_call 51; (with_reducible refine hca.mono ?_); rintro e w7 ⟨hb7, A7, c7, rfl, ho7⟩; have hbA := (((Below.refl w6.heap.size w6).alloc (Nat.le_refl _) (.cells #[.int .i64 0, .int .i64 0, .int .i64 0, .slice none 0 0] 48)).trans ((below_of_drew hb7).mono (by simp))); have hS1 := HS9.out w7 hbA; have hzb := ((Blk.new w6 48 #[.int .i64 0, .int .i64 0, .int .i64 0, .slice none 0 0]).below (below_of_drew hb7) (Blk.lt (Blk.new w6 48 #[.int .i64 0, .int .i64 0, .int .i64 0, .slice none 0 0]))); obtain ⟨t1, t2, t3, t4, t5, t6, t7, t8, t9⟩ := hzb.f4; have hS2 := HS9.out _ (below_sto4 hbA (Nat.le_refl _) (.int .i64 (nth s.ws (pcl op.o))) (.int .i64 (nth s.ws (pcl op.o + 1))) (.int .i64 (formOf s.ws (pcl op.o))) (.slice A7 (slotsL s.ws (pcl op.o)).length c7))))
    all_goals first
      | (refine open_world2 (fun W => Below w6.heap.size w6 W ∧ Blk W w7.heap.size 48 #[.int .i64 (nth s.ws (pcl op.o)), .int .i64 (nth s.ws (pcl op.o + 1)), .int .i64 (formOf s.ws (pcl op.o)), .slice A7 (slotsL s.ws (pcl op.o)).length c7] ∧ Own W w6.heap.size (.slice A7 (slotsL s.ws (pcl op.o)).length c7) (slotsL s.ws (pcl op.o))) ⟨hbA.alloc hbA.size _, Blk.new w7 48 _, Own.alloc ho7 _⟩ ?_
         rintro w8 ⟨hb8, hf8, hl8⟩
         generalize w7.heap.size = F at *)
      | (refine open_world2 (fun W => Below w6.heap.size w6 W ∧ Blk W w6.heap.size 48 #[.int .i64 (nth s.ws (pcl op.o)), .int .i64 (nth s.ws (pcl op.o + 1)), .int .i64 (formOf s.ws (pcl op.o)), .slice A7 (slotsL s.ws (pcl op.o)).length c7] ∧ Own W w6.heap.size (.slice A7 (slotsL s.ws (pcl op.o)).length c7) (slotsL s.ws (pcl op.o))) ⟨below_sto4 hbA (Nat.le_refl _) _ _ _ _, blk_sto4 hzb _ _ _ _, own_sto4 (Own.mono (base' := w6.heap.size) ho7 (by simp)) (by intro e; have h8 := (ho7.lt _ e).1; have h9 : (w6.alloc (.cells #[.int .i64 0, .int .i64 0, .int .i64 0, .slice none 0 0] 48)).drew.heap.size = w6.heap.size + 1 := World.size_alloc ..; rw [h9] at h8; omega) _ _ _ _⟩ ?_
         rintro w8 ⟨hb8, hf8, hl8⟩
         generalize hFE : w6.heap.size = F at hf8 ⊢
         clear hFE)
    all_goals
      have HPL8 := Lib.hid (HPL6.out.move hb8); have HOB8 := Lib.hid (HOB6.out.below hb8 HOB6.out.lt); have HG8 := Lib.hid (HG6.out.below hb8 HG6.out.lt)
      have HO8 := Lib.hid (HO6.out.below hb8 (fun k hk => (HO6.out.lt k hk).2)); have HX8 := Lib.hid (HX6.out.trans (hb8.mono HPL6.out.base_le))
      have HF8 := Lib.hid hf8; have HL8 := Lib.hid hl8
      clear hb8 hf8 hl8 hbA hS1 hS2 hS0 hSa hca hc0 HS9 hb7 ho7 x1 x2 x3 x4 x5 x6 x7 y1 y2 y3 y4 y5 y6 y7 hn1 hn2 HPL6 HOB6 HG6 HO6 HX6
      have HR1 := Lib.hid (sreached_any s op.o base P _ c B d C N _ w8 HPL8.out o1 o2)
      obtain ⟨y1, y2, y3, y4, y5, y6, y7⟩ := HOB8.out.f6
      go_wp2_with fail
      refine HR1.out.mono ?_
      rintro en w9 ⟨rfl, hb9⟩
      have HPL9 := Lib.hid (HPL8.out.move hb9); have HOB9 := Lib.hid (HOB8.out.below hb9 HOB8.out.lt); have HG9 := Lib.hid (HG8.out.below hb9 HG8.out.lt)
      have HO9 := Lib.hid (HO8.out.below hb9 (fun k hk => (HO8.out.lt k hk).2)); have HX9 := Lib.hid (HX8.out.trans (hb9.mono HPL8.out.base_le))
      have HF9 := Lib.hid (HF8.out.below hb9 HF8.out.lt); have HL9 := Lib.hid (HL8.out.below hb9 (fun k hk => (HL8.out.lt k hk).2))
      clear hb9 y1 y2 y3 y4 y5 y6 y7 HPL8 HOB8 HG8 HO8 HX8 HF8 HL8 HR1
      have HR2 := Lib.hid (sreached_any s op.w base P _ c B d C N _ w9 HPL9.out w1' w2')
      obtain ⟨y1, y2, y3, y4, y5, y6, y7⟩ := HOB9.out.f6
      go_wp2_with fail
      refine HR2.out.mono ?_
      rintro en w10 ⟨rfl, hb10⟩
      have HPL10 := Lib.hid (HPL9.out.move hb10); have HOB10 := Lib.hid (HOB9.out.below hb10 HOB9.out.lt); have HG10 := Lib.hid (HG9.out.below hb10 HG9.out.lt)
      have HO10 := Lib.hid (HO9.out.below hb10 (fun k hk => (HO9.out.lt k hk).2)); have HX10 := Lib.hid (HX9.out.trans (hb10.mono HPL9.out.base_le))
      have HF10 := Lib.hid (HF9.out.below hb10 HF9.out.lt); have HL10 := Lib.hid (HL9.out.below hb10 (fun k hk => (HL9.out.lt k hk).2))
      clear hb10 y1 y2 y3 y4 y5 y6 y7 HPL9 HOB9 HG9 HO9 HX9 HF9 HL9 HR2
      obtain ⟨y1, y2, y3, y4, y5, y6, y7⟩ := HOB10.out.f6
      obtain ⟨x1, x2, x3, x4, x5, x6, x7⟩ := HPL10.out.blk.f3
      obtain ⟨z1, z2, z3⟩ := HG10.out.f1
      obtain ⟨v1, v2, v3, v4, v5, v6, v7, v8, v9⟩ := HF10.out.f4
      cases hho : hereB s.ws s.rs op.o
      · have hT : T = s := by
          rw [HT.out, if_neg]
          intro h; rw [(put_parts h).2.1] at hho; cases hho
        have HTE := Lib.hid hT
        clear hT hho
        go_wp2_with fail
        go_end0
        exact ⟨rfl, by rw [HTE.out]; exact ⟨_, _, _, _, _, _, _, HPL10.out⟩, HX10.out⟩
      by_cases hf1 : formOf s.ws (pcl op.o) ≠ 1 ∧ hereB s.ws s.rs op.w = false
      · obtain ⟨hf1, hhw⟩ := hf1
        have hT : T = s := by
          rw [HT.out, if_neg]
          intro h
          rcases (put_parts h).2.2 with h2 | h2
          · exact hf1 h2
          · rw [h2] at hhw; cases hhw
        have HTE := Lib.hid hT
        have hfb : (formOf s.ws (pcl op.o) != 1) = true := by simpa using hf1
        rw [hhw]
        clear hT hho hf1 hhw
        go_wp2_with fail
        go_end0
        exact ⟨rfl, by rw [HTE.out]; exact ⟨_, _, _, _, _, _, _, HPL10.out⟩, HX10.out⟩
      have hf3 : formOf s.ws (pcl op.o) = 1 ∨ hereB s.ws s.rs op.w = true := by
        by_cases h1 : formOf s.ws (pcl op.o) = 1
        · exact .inl h1
        · right
          cases h2 : hereB s.ws s.rs op.w
          · exact absurd ⟨h1, h2⟩ hf1
          · rfl
      have hok := putOk_of HE.out hho hf3
      have HTKP := Lib.hid (putS_tok HPL10.out.tok hok)
      have HTP : Hid (T = putS s op) := by show _ = _; rw [HT.out, if_pos hok]
      have hwl : (putW s.ws op.o op.a op.w).length = s.ws.length := by unfold putW; rw [List.length_set]
      have HWL := Lib.hid hwl
      by_cases hf0 : formOf s.ws (pcl op.o) = 0
      case neg =>
        have hT : putS s op = ⟨putW s.ws op.o op.a op.w, s.rs, s.col⟩ := by unfold putS; rw [if_neg hf0]
        have htk := HTKP.out
        rw [hT] at htk
        have HTE := Lib.hid (HTP.out.trans hT)
        have HTK := Lib.hid htk
        have hfc : (formOf s.ws (pcl op.o) == 0) = false := by simpa using hf0
        have hfin := HPL10.out.heap HO10.out hPw HBw.out HCw.out rfl (by rw [HWL.out]; exact hnum) HTK.out (putW_i64 HPL10.out.i64 ⟨w1', w2'⟩)
        have HFIN := Lib.hid hfin
        have hfd : (formOf s.ws (pcl op.o) != 1) = false ∨ ((formOf s.ws (pcl op.o) != 1) = true ∧ hereB s.ws s.rs op.w = true) := by
          rcases hf3 with h1 | h1
          · left; simpa using h1
          · by_cases h2 : formOf s.ws (pcl op.o) = 1
            · left; simpa using h2
            · right; exact ⟨by simpa using h2, h1⟩
        clear hok hT htk hho hf1 hf3 hf0 hwl hfin
        generalize formOf s.ws (pcl op.o) = ff at *
        rcases hfd with hd1 | ⟨hd1, hd2⟩
        all_goals
          try rw [hd2]
          go_wp2_with fail
          go_end0
          exact ⟨rfl, by rw [HTE.out]; exact ⟨_, _, _, _, _, _, _, HFIN.out⟩, HX10.out.setCell HPL10.out.lo _⟩
      have hhw : hereB s.ws s.rs op.w = true := by
        rcases hf3 with h1 | h1
        · omega
        · exact h1
      have hT : putS s op = ⟨putW s.ws op.o op.a op.w, s.rs, shadeC s.col (nth (slotsL s.ws (pcl op.o)) op.a.toNat)⟩ := by unfold putS; rw [if_pos hf0]
      have htk := HTKP.out
      rw [hT] at htk
      have HTE := Lib.hid (HTP.out.trans hT)
      have HTK := Lib.hid htk
      have hsf := slot_fit (op := op) HPL10.out.tok HE.out hf0
      obtain ⟨gA, rfl, -, -, -, -⟩ := HL10.out.some_ (by rw [HSLEN.out]; omega)
      have e1 := HL10.out.cell op.a.toNat (by rw [HSLEN.out]; exact ht4)
      have hai : op.a < ((slotsL s.ws (pcl op.o)).length : Int) := by rw [HSLEN.out]; omega
      have hfb : (formOf s.ws (pcl op.o) != 1) = true := by rw [hf0]; rfl
      have hfc : (formOf s.ws (pcl op.o) == 0) = true := by rw [hf0]; rfl
      have HSH := Lib.hid (sshade_any s _ base P _ c B d C N _ w10 HPL10.out hsf)
      rw [hhw]
      clear hok hT htk hho hf1 hf3 hf0 hwl hhw hsf HTKP HTP
      generalize formOf s.ws (pcl op.o) = ff at *
      go_wp2_with fail
      refine HSH.out.mono ?_
      rintro en w11 ⟨rfl, hs11, hb11, ht11⟩
      have HPL11 := Lib.hid hs11
      have hg11 := ht11.blk HG10.out (fun e => own_ne_blk HPL10.out.cols HG10.out (by decide) e)
      have HO11 := Lib.hid (ht11.own HO10.out (fun k hk e => by have h8 := (HO10.out.lt k hk).1; have h9 := HCw.out k e; omega))
      have HX11 := Lib.hid (HX10.out.trans hb11)
      clear hs11 hb11 ht11 x1 x2 x3 x4 x5 x6 x7 y1 y2 y3 y4 y5 y6 y7 z1 z2 z3 v1 v2 v3 v4 v5 v6 v7 v8 v9 e1 HSH
      obtain ⟨x1, x2, x3, x4, x5, x6, x7⟩ := HPL11.out.blk.f3
      obtain ⟨z1, z2, z3⟩ := hg11.f1
      have HFIN := Lib.hid (HPL11.out.heap HO11.out hPw HBw.out HCw.out rfl (by rw [HWL.out]; exact hnum) HTK.out (putW_i64 HPL11.out.i64 ⟨w1', w2'⟩))
      clear hg11
      go_wp2_with fail
      go_end0
      exact ⟨rfl, by rw [HTE.out]; exact ⟨_, _, _, _, _, _, _, HFIN.out⟩, HX11.out.setCell HPL11.out.lo _⟩
end
end Go.Proofs.Ytjpppdacamhhfaa

namespace Go.Proofs.Ytjpppdacamhhfaa
open Go.RowKit
set_option linter.unusedVariables false

/-- The colours' row grows. -/
structure Grow (w : World) (base P G n0 : Nat) (s : TSt) (xs : List Int) (A : Option Addr) (c : Nat) (B : Option Addr) (d : Nat) (C : Option Addr) (N e : Nat) : Prop where
  blk : Blk w P 176 #[.slice A xs.length c, .slice B s.rs.length d, .slice C N e]
  box : Blk w G 33 #[.slice A xs.length c]
  row : Own w n0 (.slice A xs.length c) xs
  own : Own w base (.slice B s.rs.length d) s.rs
  cols : Own w base (.slice C N e) (colRow s.col N)
  low : s.ws.length < N
  neC : ∀ k, (Value.slice A xs.length c).ownBlock = some k → (Value.slice C N e).ownBlock ≠ some k
  neBC : ∀ k, (Value.slice B s.rs.length d).ownBlock = some k → (Value.slice C N e).ownBlock ≠ some k

section
variable {w w' : World} {base P G n0 : Nat} {s : TSt} {xs : List Int} {A : Option Addr} {c : Nat} {B : Option Addr} {d : Nat} {C : Option Addr} {N e : Nat}
theorem Grow.move (h : Grow w base P G n0 s xs A c B d C N e) (hb : Below w.heap.size w w') : Grow w' base P G n0 s xs A c B d C N e :=
  ⟨h.blk.below hb h.blk.lt, h.box.below hb h.box.lt, h.row.below hb (fun k hk => (h.row.lt k hk).2), h.own.below hb (fun k hk => (h.own.lt k hk).2), h.cols.below hb (fun k hk => (h.cols.lt k hk).2), h.low, h.neC, h.neBC⟩
/-- A white one more. -/
theorem Grow.push {W w9 : World} {X : Option Addr} {n k : Nat} (h : Grow w base P G n0 s xs A c B d C N e) (hk : TOk s) (hb : Below w.heap.size w W) (hown : Own w9 base (.slice X n k) (colRow s.col N ++ [0])) (hgr : W.grownBy w9 (Value.slice C N e).ownBlock)
    (hat : ∀ q, (Value.slice X n k).ownBlock = some q → (Value.slice C N e).ownBlock = some q ∨ q = W.heap.size) :
    Blk w9 P 176 #[.slice A xs.length c, .slice B s.rs.length d, .slice C N e] ∧ Grow (w9.setCell ⟨P, 2, none⟩ (.slice X n k)) base P G n0 s xs A c B d X n k ∧ n = N + 1 := by
  have hc0 : s.col N = 0 := Classical.byContradiction fun e => absurd (places_mem (hk.pl N e)).2.1 (by have := h.low; omega)
  have hPC : some P ≠ (Value.slice C N e).ownBlock := fun e => own_ne_blk h.cols h.blk (by decide) e.symm
  have hGC : some G ≠ (Value.slice C N e).ownBlock := fun e => own_ne_blk h.cols h.box (by decide) e.symm
  have hp := (h.blk.below hb h.blk.lt).grown hgr hPC
  have hg := (h.box.below hb h.box.lt).grown hgr hGC
  have hAC : (Value.slice A xs.length c).ownBlock = none ∨ (Value.slice A xs.length c).ownBlock ≠ (Value.slice C N e).ownBlock := by
    cases e1 : (Value.slice A xs.length c).ownBlock with
    | none => exact .inl rfl
    | some q => exact .inr (fun e2 => h.neC q e1 e2.symm)
  have hBC : (Value.slice B s.rs.length d).ownBlock = none ∨ (Value.slice B s.rs.length d).ownBlock ≠ (Value.slice C N e).ownBlock := by
    cases e1 : (Value.slice B s.rs.length d).ownBlock with
    | none => exact .inl rfl
    | some q => exact .inr (fun e2 => h.neBC q e1 e2.symm)
  have hr := (h.row.below hb (fun k hk => (h.row.lt k hk).2)).grown hgr hAC
  have ho := (h.own.below hb (fun k hk => (h.own.lt k hk).2)).grown hgr hBC
  have hn : n = N + 1 := by have := own_n hown; rw [List.length_append, colRow_len] at this; simpa using this
  refine ⟨hp, ⟨hp.set_ 2 _, hg.far (by dsimp only; exact fun e => blk_ne hg hp (by decide) e) _, hr.setCell _ (own_ne_blk hr hp (by decide)) _, ho.setCell _ (own_ne_blk ho hp (by decide)) _, ?_, by have := h.low; omega, fun q hq e => ?_, fun q hq e => ?_⟩, hn⟩
  · rw [hn, colRow_snoc, hc0, ← hn]
    exact hown.setCell _ (own_ne_blk hown hp (by decide)) _
  · rcases hat q e with e2 | e2
    · exact h.neC q hq e2
    · have := (h.row.lt q hq).2; have := hb.size; omega
  · rcases hat q e with e2 | e2
    · exact h.neBC q hq e2
    · have := (h.own.lt q hq).2; have := hb.size; omega
end

section
variable (s : TSt) (op : TOp) (base P : Nat) (A : Option Addr) (c : Nat) (B : Option Addr) (d : Nat) (C : Option Addr) (N e : Nat) (w : World) (h : StX w base P s A c B d C N e)
include h

set_option maxRecDepth 100000 in
set_option maxHeartbeats 4000000 in
theorem do_new (ho : OpIn op) (hk : op.k = 3) (hlen : s.rs.length < 100000) : Calls Try.prog 144 #[.pointer (some ⟨P, 0, none⟩), opV op] w (StEnd base P (doT s op) w) := by
  have hx0 : Below w.heap.size w (w.alloc (.cells #[.int .i64 op.k, .int .i64 op.o, .int .i64 op.a, .int .i64 op.w, .int .i64 op.f, .int .i64 op.s] 100)) := (Below.refl _ _).alloc (Nat.le_refl _) _
  have HX0 := Lib.hid (hx0.mono h.base_le)
  have HPL := Lib.hid (h.move hx0)
  have HOB := Lib.hid (Blk.new w 100 #[.int .i64 op.k, .int .i64 op.o, .int .i64 op.a, .int .i64 op.w, .int .i64 op.f, .int .i64 op.s])
  have hq1 := h.tok.ok.most
  have hq0 := h.tok.ok.two
  have hnum := h.num
  obtain ⟨f1, f2⟩ := ho.f; obtain ⟨s1, s2⟩ := ho.s
  generalize hT : doT s op = T
  have HT := Lib.hid (hT.symm.trans (doT_new hk))
  have k1 : (op.k == 1) = false := by rw [hk]; rfl
  have k2 : (op.k == 2) = false := by rw [hk]; rfl
  have k3 : (op.k == 3) = true := by rw [hk]; rfl
  clear hx0 h ho hk hT
  unfold opV
  go_enter Try.func144, Try.ntmps144
  go_wp2_with fail
  generalize (w.alloc (.cells #[.int .i64 op.k, .int .i64 op.o, .int .i64 op.a, .int .i64 op.w, .int .i64 op.f, .int .i64 op.s] 100)) = w1 at *
  generalize w.heap.size = O at *
  obtain ⟨b, ob, rfl, hlt, hrow⟩ := HPL.out.row (by omega)
  obtain ⟨x1, x2, x3, x4, x5, x6, x7⟩ := HPL.out.blk.f3
  obtain ⟨y1, y2, y3, y4, y5, y6, y7⟩ := HOB.out.f6
  have hPw : P < w1.heap.size := HPL.out.blk.lt
  have HBw := Lib.hid (fun k hk => (HPL.out.own.lt k hk).2); have HCw := Lib.hid (fun k hk => (HPL.out.cols.lt k hk).2)
  have hct : ∀ W, Below w1.heap.size w1 W → Calls Try.prog 47 #[.agg #[.slice (some ⟨b, ob, none⟩) s.ws.length c], .int .i64 0, .int .i64 op.f, .int .i64 op.s] W (HeapOut (newR s.ws 0 op.f op.s) W) := fun W hW =>
    rnew_any s.ws b ob c 0 op.f op.s W (hrow.below hW hlt) (Nat.lt_of_lt_of_le hlt hW.size) HPL.out.i64 HPL.out.tok.ok (by omega) (by omega) f1 f2 s1 s2
  have HS9 := Lib.hid (fun (W : World) (hB : Below w1.heap.size w1 W) => (⟨(hB.cell (p := ⟨P, 0, none⟩) x7).trans x1, (hB.cell (p := ⟨O, 4, none⟩) y7).trans y5, (hB.cell (p := ⟨O, 5, none⟩) y7).trans y6⟩ : W.cell? ⟨P, 0, none⟩ = some (.slice (some ⟨b, ob, none⟩) s.ws.length c) ∧ W.cell? ⟨O, 4, none⟩ = some (.int .i64 op.f) ∧ W.cell? ⟨O, 5, none⟩ = some (.int .i64 op.s)))
  have hc0 := hct w1.drew (Below.refl _ _).drew
  have hca := hct ((w1.alloc (.cells #[.slice none 0 0] 33)).drew) (((Below.refl _ _).alloc (Nat.le_refl _) _).drew)
  have hS0 := HS9.out w1.drew (Below.refl _ _).drew
  have hSa := HS9.out ((w1.alloc (.cells #[.slice none 0 0] 33)).drew) (((Below.refl _ _).alloc (Nat.le_refl _) _).drew)
  clear hct hrow
  generalize hr : newR s.ws 0 op.f op.s = r at *
  have HR := Lib.hid hr
  obtain ⟨rd, ro, re⟩ := r
  clear hr
  go_region_held3 (fun W => W.cell? ⟨P, 0, none⟩ = some (.slice (some ⟨b, ob, none⟩) s.ws.length c) ∧ W.cell? ⟨O, 4, none⟩ = some (.int .i64 op.f) ∧ W.cell? ⟨O, 5, none⟩ = some (.int .i64 op.s))
    (first | (with_reducible exact hS0) | (with_reducible exact hSa) | (with_reducible exact hS1) | (with_reducible exact hS2) | go_keep)
    (first
      | (go_at_call 47; (with_reducible refine hc0.mono ?_); rintro e w5 ⟨hb5, A5, c5, rfl, ho5⟩; have hbA := below_of_drew hb5; have hS1 := HS9.out w5 hbA; have hS2 := HS9.out (w5.alloc (.cells #[.slice A5 rd.length c5] 33)) (hbA.alloc hbA.size _))
      | (go_at_call 47; (with_reducible refine hca.mono ?_); rintro e w5 ⟨hb5, A5, c5, rfl, ho5⟩; have hbA := (((Below.refl w1.heap.size w1).alloc (Nat.le_refl _) (.cells #[.slice none 0 0] 33)).trans ((below_of_drew hb5).mono (by simp))); have hS1 := HS9.out w5 hbA; have hzb := ((Blk.new w1 33 #[.slice none 0 0]).below (below_of_drew hb5) (Blk.lt (Blk.new w1 33 #[.slice none 0 0]))); obtain ⟨t1, t2, t3⟩ := hzb.f1; have hS2 := HS9.out (w5.setCell ⟨w1.heap.size, 0, none⟩ (.slice A5 rd.length c5)) (hbA.setCell (Nat.le_refl _) _)))
  all_goals first
    | (refine open_world2 (fun W => Below w1.heap.size w1 W ∧ Blk W w5.heap.size 33 #[.slice A5 rd.length c5] ∧ Own W w1.heap.size (.slice A5 rd.length c5) rd) ⟨hbA.alloc hbA.size (.cells #[.slice A5 rd.length c5] 33), Blk.new w5 33 #[.slice A5 rd.length c5], Own.alloc ho5 (.cells #[.slice A5 rd.length c5] 33)⟩ ?_
       rintro w6 ⟨hb6, hg6, ho6⟩
       have hG : w1.heap.size ≤ w5.heap.size := hbA.size
       generalize w5.heap.size = G at *)
    | (refine open_world2 (fun W => Below w1.heap.size w1 W ∧ Blk W w1.heap.size 33 #[.slice A5 rd.length c5] ∧ Own W w1.heap.size (.slice A5 rd.length c5) rd) ⟨hbA.setCell (Nat.le_refl _) _, hzb.set_ 0 _, (Own.mono (base' := w1.heap.size) ho5 (by simp)).setCell _ (by intro e; have h8 := (ho5.lt _ e).1; have h9 : (w1.alloc (.cells #[.slice none 0 0] 33)).drew.heap.size = w1.heap.size + 1 := World.size_alloc ..; rw [h9] at h8; dsimp only at h8; omega) _⟩ ?_
       rintro w6 ⟨hb6, hg6, ho6⟩
       have hG : w1.heap.size ≤ w1.heap.size := Nat.le_refl _
       generalize hGE : w1.heap.size = G at hg6 hG ⊢
       rw [← hGE] at hG
       clear hGE)
  all_goals
    have HPL6 := Lib.hid (HPL.out.move hb6)
    have HX6 := Lib.hid (HX0.out.trans (hb6.mono HPL.out.base_le))
    have HG6 := Lib.hid hg6; have HO6 := Lib.hid ho6
    have HBS := Lib.hid HPL.out.base_le
    clear hb6 hg6 ho6 hbA hS1 hS2 hS0 hSa hca hc0 HS9 hb5 ho5 x1 x2 x3 x4 x5 x6 x7 y1 y2 y3 y4 y5 y6 y7
    by_cases hE : newE s.ws 0 op.f op.s = 0
    case neg =>
      have h1 : newR s.ws 0 op.f op.s = ([], 0, newE s.ws 0 op.f op.s) := by unfold newR; rw [if_neg hE]
      have h2 := HR.out.symm.trans h1
      simp only [Prod.mk.injEq] at h2
      obtain ⟨rfl, rfl, rfl⟩ := h2
      have hT : T = s := by rw [HT.out, if_neg hE]
      have HTE := Lib.hid hT
      have hne : (newE s.ws 0 op.f op.s != 0) = true := by simpa using hE
      clear hE h1 hT
      generalize newE s.ws 0 op.f op.s = E at *
      go_wp2_with fail
      go_end0
      exact ⟨rfl, by rw [HTE.out]; exact ⟨_, _, _, _, _, _, _, HPL6.out⟩, HX6.out⟩
    have h1 : newR s.ws 0 op.f op.s = (newW s.ws 0 op.f op.s, 2 * (s.ws.length : Int), 0) := by unfold newR; rw [if_pos hE]
    have h2 := HR.out.symm.trans h1
    simp only [Prod.mk.injEq] at h2
    obtain ⟨rfl, rfl, rfl⟩ := h2
    clear h1
    have hT : T = ⟨newW s.ws 0 op.f op.s, s.rs ++ [2 * (s.ws.length : Int)], upd s.col s.ws.length 2⟩ := by rw [HT.out, if_pos hE]; rfl
    have HTE := Lib.hid hT
    have HTK : Hid (TOk ⟨newW s.ws 0 op.f op.s, s.rs ++ [2 * (s.ws.length : Int)], upd s.col s.ws.length 2⟩) := newS_tok HPL.out.tok hE
    have HI := Lib.hid (newW_i64g HPL.out.tok.ok HPL.out.i64 hE)
    have hnl : (newW s.ws 0 op.f op.s).length ≤ 2000 := (new_parts HPL.out.tok.ok hE).1.most
    have HNL := Lib.hid (show s.ws.length < (newW s.ws 0 op.f op.s).length by unfold newW; simp)
    have hgs : Grow (w6.setCell ⟨P, 0, none⟩ (.slice A5 (newW s.ws 0 op.f op.s).length c5)) base P G w1.heap.size s (newW s.ws 0 op.f op.s) A5 c5 B d C N e := by
      refine ⟨HPL6.out.blk.set_ 0 _, HG6.out.far (p := ⟨P, 0, none⟩) (fun e => blk_ne HG6.out HPL6.out.blk (by decide) e) _, HO6.out.setCell ⟨P, 0, none⟩ (by intro e; have := (HO6.out.lt _ e).1; dsimp only at this; omega) _, HPL6.out.own.setCell _ (own_ne_blk HPL6.out.own HPL6.out.blk (by decide)) _, HPL6.out.cols.setCell _ (own_ne_blk HPL6.out.cols HPL6.out.blk (by decide)) _, hnum, fun k hk e => ?_, HPL6.out.neBC⟩
      have h8 := (HO6.out.lt k hk).1; have h9 := HCw.out k e; omega
    have HGS := Lib.hid hgs
    have HX7 := Lib.hid (HX6.out.setCell (p := ⟨P, 0, none⟩) HPL6.out.lo (.slice A5 (newW s.ws 0 op.f op.s).length c5))
    have hb67 : base ≤ (w6.setCell ⟨P, 0, none⟩ (.slice A5 (newW s.ws 0 op.f op.s).length c5)).heap.size := by have := HPL6.out.base_le; simpa using this
    obtain ⟨x1, x2, x3, x4, x5, x6, x7⟩ := HPL6.out.blk.f3
    obtain ⟨z1, z2, z3⟩ := HG6.out.f1
    clear hT hE hgs
    generalize hXS : newW s.ws 0 op.f op.s = XS at *
    have HXS := Lib.hid hXS
    clear hXS
    go_wp2_with fail
    clear x1 x2 x3 x4 x5 x6 x7 z1 z2 z3
    generalize (w6.setCell ⟨P, 0, none⟩ (.slice A5 XS.length c5)) = w7 at *
    go_loopg [186] 3000 (fun gk _ wr => ∃ (C8 : Option Addr) (N8 e8 : Nat), Grow wr base P G w1.heap.size s XS A5 c5 B d C8 N8 e8 ∧ Below base w wr ∧ base ≤ wr.heap.size ∧ XS.length + 1 - N8 ≤ gk ∧ N8 ≤ N + 3000)
    case atStart => exact ⟨C, N, e, HGS.out, HX7.out, hb67, by omega, by omega⟩
    case round =>
      obtain ⟨C8, N8, e8, hg8, hx8, hbs8, hgk, hn8⟩ := hrel
      have HG8 := Lib.hid hg8; have HX8 := Lib.hid hx8
      obtain ⟨x1, x2, x3, x4, x5, x6, x7⟩ := hg8.blk.f3
      obtain ⟨z1, z2, z3⟩ := hg8.box.f1
      have hlow := hg8.low
      have hwl : IntKind.i64.wrap ((XS.length : Int) + 1) = (XS.length : Int) + 1 := IntWalk.i64_in _ (by omega)
      clear hg8 hx8
      by_cases hlt8 : N8 < XS.length + 1
      · have hd8 : decide ((N8 : Int) < (XS.length : Int) + 1) = true := decide_eq_true (by omega)
        go_wp2_with fail
        go_quiet (fail)
        have HG9 := Lib.hid (HG8.out.move (belowN wr.heap.size wr nq)); have HX9 := Lib.hid (HX8.out.trans (belowN base wr nq))
        have hbs9 : base ≤ (wr.drewN nq).heap.size := hbs8
        clear x1 x2 x3 x4 x5 x6 x7 z1 z2 z3 hwl hd8
        generalize wr.drewN nq = w9 at *
        obtain ⟨x1, x2, x3, x4, x5, x6, x7⟩ := HG9.out.blk.f3
        have hlj : (colRow s.col N8).length + [(0 : Int)].length ≤ 1000000000 := by rw [colRow_len]; simp; omega
        have hzd : base ≤ (w9.alloc (.cells #[.int .i64 0] 3)).heap.size := by rw [World.size_alloc]; omega
        have HCD : Hid (Own (w9.alloc (.cells #[.int .i64 0] 3)) base (.slice C8 N8 e8) (colRow s.col N8)) := HG9.out.cols.alloc _
        have HYD : Hid (Ints (w9.alloc (.cells #[.int .i64 0] 3)) (some ⟨w9.heap.size, 0, none⟩) [(0 : Int)]) := ints_new w9 [(0 : Int)]
        have HBD : Hid (Below w9.heap.size w9 (w9.alloc (.cells #[.int .i64 0] 3))) := (Below.refl _ _).alloc (Nat.le_refl _) _
        have HPU := Lib.hid (fun (w10 : World) (X : Option Addr) (n kk : Nat) hown hgr hat => HG9.out.push (W := w9.alloc (.cells #[.int .i64 0] 3)) (w9 := w10) (X := X) (n := n) (k := kk) HPL.out.tok HBD.out hown hgr hat)
        have hPC := Lib.hid (fun k hk => (HG9.out.cols.lt k hk).1)
        go_wp2_with (at_builtin; refine wpList_joinM rfl _ _ rfl base (.slice C8 N8 e8) (colRow s.col N8) rfl HCD.out (some ⟨w9.heap.size, 0, none⟩) 1 [(0 : Int)] rfl HYD.out hlj hzd ?_; intro C10 n10 c10 w10 hown10 hgr10 hat10; have hpc := HPU.out w10 C10 n10 c10 hown10 hgr10 hat10; have HPC := Lib.hid hpc.2.1; have hp10 := hpc.1; have hn10 := Lib.hid hpc.2.2; have HX10 := Lib.hid ((HX9.out.alloc hbs9 (.cells #[.int .i64 0] 3)).grown hgr10 hzd hPC.out); have hs10 := Nat.le_trans hzd hgr10.size; obtain ⟨r1, r2, r3, r4, r5, r6, r7⟩ := hp10.f3; clear hpc hp10 hown10 hgr10 hat10)
        go_roundg (gk - 1)
        case measure => omega
        case rel => exact ⟨C10, n10, c10, HPC.out, HX10.out.setCell HPL.out.lo _, by simpa using hs10, by have := hn10.out; omega, by have := hn10.out; omega⟩
      · have hd8 : decide ((N8 : Int) < (XS.length : Int) + 1) = false := decide_eq_false (by omega)
        go_wp2_with fail
        go_quiet (fail)
        have HG9 := Lib.hid (HG8.out.move (belowN wr.heap.size wr nq)); have HX9 := Lib.hid (HX8.out.trans (belowN base wr nq))
        have hbs9 : base ≤ (wr.drewN nq).heap.size := hbs8
        clear x1 x2 x3 x4 x5 x6 x7 z1 z2 z3 hwl hd8
        generalize wr.drewN nq = w9 at *
        obtain ⟨x1, x2, x3, x4, x5, x6, x7⟩ := HG9.out.blk.f3
        have hlow9 := HG9.out.low
        obtain ⟨G8, rfl, hg1, hg2, hg3, hg4⟩ := HG9.out.cols.some_ (by rw [colRow_len]; omega)
        have e1 := HG9.out.cols.cell s.ws.length (by rw [colRow_len]; omega)
        have f1 := HG9.out.cols.frz s.ws.length
        have hnl8 : s.ws.length < N8 := by omega
        have hdv : (2 * (s.ws.length : Int)) / 2 = (s.ws.length : Int) := by omega
        have hwp : IntKind.i64.wrap ((s.ws.length : Nat) : Int) = ((s.ws.length : Nat) : Int) := IntWalk.i64_in _ (by omega)
        have hGP : P ≠ G8 := fun e => own_ne_blk HG9.out.cols HG9.out.blk (by decide) (by rw [e]; rfl)
        have hz9 : base ≤ ((w9.setCell ⟨G8, s.ws.length, none⟩ (.int .i64 2)).alloc (.cells #[.int .i64 (2 * (s.ws.length : Int))] 3)).heap.size := by rw [World.size_alloc, World.size_setCell]; omega
        have hb9 := ((HG9.out.blk.far (p := ⟨G8, s.ws.length, none⟩) (by dsimp only; exact hGP) (.int .i64 2))).alloc (.cells #[.int .i64 (2 * (s.ws.length : Int))] 3)
        have HB9 := Lib.hid hb9
        have HRa : Hid (Own ((w9.setCell ⟨G8, s.ws.length, none⟩ (.int .i64 2)).alloc (.cells #[.int .i64 (2 * (s.ws.length : Int))] 3)) base (.slice B s.rs.length d) s.rs) := (HG9.out.own.setCell ⟨G8, s.ws.length, none⟩ (fun e => HG9.out.neBC G8 e rfl) (.int .i64 2)).alloc _
        have hoa := (HG9.out.row.setCell ⟨G8, s.ws.length, none⟩ (fun e => HG9.out.neC G8 e rfl) (.int .i64 2)).alloc (.cells #[.int .i64 (2 * (s.ws.length : Int))] 3)
        have HOa := Lib.hid hoa
        have hca := HG9.out.cols.put s.ws.length 2
        rw [colRow_set] at hca
        have HCa := Lib.hid (hca.alloc (.cells #[.int .i64 (2 * (s.ws.length : Int))] 3))
        have hya := ints_new (w9.setCell ⟨G8, s.ws.length, none⟩ (.int .i64 2)) [2 * (s.ws.length : Int)]
        rw [World.size_setCell] at hya
        have HYa : Hid (Ints ((w9.setCell ⟨G8, s.ws.length, none⟩ (.int .i64 2)).alloc (.cells #[.int .i64 (2 * (s.ws.length : Int))] 3)) (some ⟨w9.heap.size, 0, none⟩) [2 * (s.ws.length : Int)]) := hya
        have HXa := Lib.hid ((HX9.out.setCell (p := ⟨G8, s.ws.length, none⟩) hg1 (.int .i64 2)).alloc (by rw [World.size_setCell]; omega) (.cells #[.int .i64 (2 * (s.ws.length : Int))] 3))
        have hPB : some P ≠ (Value.slice B s.rs.length d).ownBlock := fun e => own_ne_blk HG9.out.own HG9.out.blk (by decide) e.symm
        have HPB := Lib.hid hPB
        have hAB : (Value.slice A5 XS.length c5).ownBlock = none ∨ (Value.slice A5 XS.length c5).ownBlock ≠ (Value.slice B s.rs.length d).ownBlock := by
          cases e : (Value.slice A5 XS.length c5).ownBlock with
          | none => exact .inl rfl
          | some k =>
            right
            intro e2
            have h8 := (HG9.out.row.lt k e).1
            have h9 := HBw.out k e2.symm
            omega
        have HAB := Lib.hid hAB
        have hCB : (Value.slice (some ⟨G8, 0, none⟩) N8 e8).ownBlock ≠ (Value.slice B s.rs.length d).ownBlock := fun e => HG9.out.neBC G8 e.symm rfl
        have HCB := Lib.hid hCB
        have hlj : s.rs.length + [2 * (s.ws.length : Int)].length ≤ 1000000000 := by simp; omega
        have hbB : ∀ k, (Value.slice B s.rs.length d).ownBlock = some k → base ≤ k := fun k e => (HG9.out.own.lt k e).1
        have HBB := Lib.hid hbB
        clear hya hca hoa hb9 hPB hAB hCB hbB hg3 hg4 hg2 hGP
        go_wp2_with (at_builtin; refine wpList_joinM rfl _ _ rfl base (.slice B s.rs.length d) s.rs rfl HRa.out (some ⟨w9.heap.size, 0, none⟩) 1 [2 * (s.ws.length : Int)] rfl HYa.out hlj hz9 ?_; intro B9 n9 d9 wA hown9 hgr9 hat9; have hbA := HB9.out.grown hgr9 HPB.out; have HBA := Lib.hid hbA; have HR9 := Lib.hid hown9; have HO9 := Lib.hid (HOa.out.grown hgr9 HAB.out); have HC9 := Lib.hid (HCa.out.grown hgr9 (.inr HCB.out)); have HXA := Lib.hid (HXa.out.grown hgr9 hz9 HBB.out); have HAT := Lib.hid hat9; clear x1 x2 x3 x4 x5 x6 x7; obtain ⟨x1, x2, x3, x4, x5, x6, x7⟩ := hbA.f3; clear hown9 hgr9 hat9 hbA)
        have hn9 := own_n HR9.out
        have hpx : StX (wA.setCell ⟨P, 1, none⟩ (.slice B9 n9 d9)) base P ⟨XS, s.rs ++ [2 * (s.ws.length : Int)], upd s.col s.ws.length 2⟩ A5 c5 B9 d9 (some ⟨G8, 0, none⟩) N8 e8 := by
          subst hn9
          have ha := HO9.out.setCell ⟨P, 1, none⟩ (own_ne_blk HO9.out HBA.out (by decide)) (.slice B9 (s.rs ++ [2 * (s.ws.length : Int)]).length d9)
          refine ⟨HBA.out.set_ 1 _, (own_fst ha).1, (own_fst ha).2, HR9.out.setCell _ (own_ne_blk HR9.out HBA.out (by decide)) _, HC9.out.setCell _ (own_ne_blk HC9.out HBA.out (by decide)) _, by show XS.length < N8; omega, fun a k ha' hk' => ?_, fun a k ha' hk' => ?_, fun k hk' e => ?_, HPL.out.lo, HTK.out, HI.out, by simp; omega⟩
          · have h9 : (Value.slice A5 XS.length c5).ownBlock = some a.block := by rw [ha']; rfl
            have h8 := HG9.out.row.lt _ h9
            rcases HAT.out k hk' with e | e
            · have := HBw.out k e; omega
            · rw [World.size_alloc, World.size_setCell] at e; have := h8.2; omega
          · have h9 : (Value.slice A5 XS.length c5).ownBlock = some a.block := by rw [ha']; rfl
            intro e; subst e
            exact HG9.out.neC _ h9 hk'
          · rcases HAT.out k hk' with e' | e'
            · exact HG9.out.neBC k e' e
            · have := (HG9.out.cols.lt k e).2; rw [World.size_alloc, World.size_setCell] at e'; omega
        have HPX := Lib.hid hpx
        clear x1 x2 x3 x4 x5 x6 x7 hpx hn9
        go_end0
        exact ⟨rfl, by rw [HTE.out]; exact ⟨_, _, _, _, _, _, _, HPX.out⟩, HXA.out.setCell HPL.out.lo _⟩
end
end Go.Proofs.Ytjpppdacamhhfaa

namespace Go.Proofs.Ytjpppdacamhhfaa
open Go.RowKit
set_option linter.unusedVariables false

set_option maxRecDepth 100000 in
set_option maxHeartbeats 4000000 in
theorem do_else (s : TSt) (op : TOp) (base P : Nat) (A : Option Addr) (c : Nat) (B : Option Addr) (d : Nat) (C : Option Addr) (N e : Nat) (w : World) (h : StX w base P s A c B d C N e)
    (h1 : op.k ≠ 1) (h2 : op.k ≠ 2) (h3 : op.k ≠ 3) (h4 : op.k ≠ 4) : Calls Try.prog 144 #[.pointer (some ⟨P, 0, none⟩), opV op] w (StEnd base P (doT s op) w) := by
  have hx0 : Below w.heap.size w (w.alloc (.cells #[.int .i64 op.k, .int .i64 op.o, .int .i64 op.a, .int .i64 op.w, .int .i64 op.f, .int .i64 op.s] 100)) := (Below.refl _ _).alloc (Nat.le_refl _) _
  have HX0 := Lib.hid (hx0.mono h.base_le)
  have HPL := Lib.hid (h.move hx0)
  have HT := Lib.hid (doT_else (s := s) h1 h2 h3 h4)
  have k1 : (op.k == 1) = false := by simpa using h1
  have k2 : (op.k == 2) = false := by simpa using h2
  have k3 : (op.k == 3) = false := by simpa using h3
  have k4 : (op.k == 4) = false := by simpa using h4
  rw [HT.out]
  clear hx0 h h1 h2 h3 h4 HT
  unfold opV
  go_enter Try.func144, Try.ntmps144
  go_wp2_with fail
  go_end0
  exact ⟨rfl, ⟨_, _, _, _, _, _, _, HPL.out⟩, HX0.out⟩
theorem do_any (s : TSt) (op : TOp) (base P : Nat) (w : World) (h : StAt w base P s) (ho : OpIn op) (hl : s.rs.length < 100000) :
    Calls Try.prog 144 #[.pointer (some ⟨P, 0, none⟩), opV op] w (StEnd base P (doT s op) w) := by
  obtain ⟨A, c, B, d, C, N, e, h⟩ := h
  by_cases h1 : op.k = 1
  · exact do_scan s op base P A c B d C N e w h h1
  by_cases h2 : op.k = 2
  · exact do_put s op base P A c B d C N e w h ho h2
  by_cases h3 : op.k = 3
  · exact do_new s op base P A c B d C N e w h ho h3 hl
  by_cases h4 : op.k = 4
  · exact do_root s op base P A c B d C N e w h ho h4
  exact do_else s op base P A c B d C N e w h h1 h2 h3 h4
end Go.Proofs.Ytjpppdacamhhfaa
