/- The weak slots of a pair held against each other, and a pair taken from the row. Conditions: all pairs are done. -/
import Derived.Test.YtjpppdacamhhfaaAlkD
import Derived.Test.YtjpppdacamhhfaaAlkF
import Derived.Test.YtjpppdacamhhfaaAlSpec2
namespace Go.Proofs.Ytjpppdacamhhfaa
open Go.RowKit
set_option linter.unusedVariables false

theorem weakall_any (P Q0 ga Sa Ma gb Sb Mb k T b o c b' o' c' : Nat) (ws rs vs qs : List Int) (f g : Nat → Bool) (hC : AlkC ws rs vs qs f g) (ps : List (Nat × Nat)) (x y : Nat) (S : Nat → Prop) (w : World)
    (hI : AlkI P Q0 ga Sa Ma gb Sb Mb k f g ps w) (hL : AlkL ws rs vs qs f g ps k) (hk : ps.length ≤ k) (hT : Blk w T 151 #[.pointer (some ⟨P, 0, none⟩)]) (na nb : Nat) (SA SB : List Nat)
    (hSa : MapI w Sa na (seenM SA)) (hfa : ∀ p, f p = decide (p ∈ SA)) (hSb : MapI w Sb nb (seenM SB)) (hgb : ∀ p, g p = decide (p ∈ SB)) (hxy : (x, y) ∈ ps) (h2 : formOf ws x = 2)
    (hV : SideV S w ga b o c ws) (hU : SideV S w gb b' o' c' vs) :
    Calls Try.prog 128 #[.slice (slotsA b o c x) (slotsN ws x) (c - (x + 3)), .slice (slotsA b' o' c' y) (slotsN vs y) (c' - (y + 3)), .func (.func 131) #[] #[.pointer (some ⟨T, 0, none⟩)]] w
      fun e w' => e = .returned (.bool (weakQ ws vs f g ps x y)) ∧ Below w.heap.size w w' := by
  obtain ⟨hx, hy⟩ := hI.2.1.rch x y hxy
  have px := (tell_fit hC.ok hC.fit hC.tell hx).1
  have py := (tell_fit hC.ok' hC.fit' hC.tell' hy).1
  obtain ⟨px2, pxl, pxb⟩ := places_mem px
  obtain ⟨py2, pyl, pyb⟩ := places_mem py
  have hm := hL.all hk x y hxy
  obtain ⟨f1, f2⟩ := form_of_head hm.head
  have q1 : ws.length ≤ 2000 := hC.ok.most
  obtain ⟨-, -, -, m4, m5⟩ := not_bad pxb
  have hcall := allw_any T (slotsL ws x) (slotsL vs y) (slotsA b o c x) (slotsA b' o' c' y) (c - (x + 3)) (c' - (y + 3)) (weakO f) (weakO g) (fun ps' W => ps' = ps ∧ Below w.heap.size w W) (fun k => w.heap.size ≤ k) w ps
    (by rw [slotsL_len pxb, slotsL_len pyb, f2]) (by rw [slotsL_len pxb]; unfold slotsN; omega) (hV.i64.slots pxb) (hU.i64.slots pyb)
    (fun W h => ints_slots ((hV.row w (Turned.refl _ _)).1.below (B := w.heap.size) ⟨h.os, h.tape, h.output, h.size, fun k hk => h.block k hk (by omega)⟩ (hV.row w (Turned.refl _ _)).2) (Nat.lt_of_lt_of_le (hV.row w (Turned.refl _ _)).2 h.size) pxb hV.cap)
    (fun W h => ints_slots ((hU.row w (Turned.refl _ _)).1.below (B := w.heap.size) ⟨h.os, h.tape, h.output, h.size, fun k hk => h.block k hk (by omega)⟩ (hU.row w (Turned.refl _ _)).2) (Nat.lt_of_lt_of_le (hU.row w (Turned.refl _ _)).2 h.size) pyb hU.cap)
    ⟨rfl, Below.refl _ _⟩
    (fun j ps' W hj hs ht => by
      obtain ⟨rfl, hb⟩ := hs
      rw [slotsL_len pxb] at hj
      have hj2 : j < slotsN vs y := by omega
      rw [slotsL_nth pxb hj, slotsL_nth pyb hj2]
      have hst := weak_stay hC hL hI.2.1 hk (nth ws (x + 3 + j)) (nth vs (y + 3 + j))
      refine (weakc_stay P Q0 ga Sa Ma gb Sb Mb k T ws rs vs qs f g hC ps' _ _ W ⟨hI.1.keep hb, hI.2⟩ (hT.below hb hT.lt) na nb SA SB (hSa.below hb hSa.lt) hfa (hSb.below hb hSb.lt) hgb
        (slot_fits hC.ok px (by omega) hj) (slot_fits hC.ok' py (by omega) hj2) hst).mono ?_
      rintro e w' ⟨rfl, hb'⟩
      rw [hst]
      exact ⟨rfl, ⟨rfl, hb.trans (hb'.mono hb.size)⟩, turned_of_below hb'⟩)
  rw [slotsL_len pxb, slotsL_len pyb] at hcall
  refine hcall.mono ?_
  rintro e w' ⟨rfl, hs, ht⟩
  exact ⟨rfl, ht.os, ht.tape, ht.output, ht.size, fun k hk => ht.block k hk (by omega)⟩

/-- The first pair of the row is taken. -/
theorem AlkI.take {P Q0 ga Sa Ma gb Sb Mb k : Nat} {f g : Nat → Bool} {ps : List (Nat × Nat)} {w : World} {x y : Nat} (h : AlkI P Q0 ga Sa Ma gb Sb Mb k f g ps w) (hk : k < ps.length) (hd : ps.drop k = (x, y) :: ps.drop (k + 1)) :
    ∃ b off cap, Blk w P 156 #[.pointer (some ⟨ga, 0, none⟩), .map (some Sa), .map (some Ma), .pointer (some ⟨gb, 0, none⟩), .map (some Sb), .map (some Mb), .slice (some ⟨b, off, none⟩) (ps.drop k).length cap] ∧
      1 ≤ (ps.drop k).length ∧ (ps.drop k).length ≤ cap ∧ b < w.heap.size ∧ w.cell? ⟨b, off, none⟩ = some (.int .i64 (x : Int)) ∧ w.cell? ⟨b, off + 1, none⟩ = some (.int .i64 (y : Int)) ∧
      ∀ W ao, Below w.heap.size w W → (1 < cap → ao = some ⟨b, off + 2, none⟩) → AlkI P Q0 ga Sa Ma gb Sb Mb (k + 1) f g ps (W.setCell ⟨P, 6, none⟩ (.slice ao ((ps.drop k).length - 1) (cap - 1))) ∧
        Turned w (W.setCell ⟨P, 6, none⟩ (.slice ao ((ps.drop k).length - 1) (cap - 1))) (alkT P Q0 Ma Mb) := by
  obtain ⟨A, n, c, hblk, hq⟩ := h.1.blk
  obtain ⟨n1, hma⟩ := h.1.ma
  obtain ⟨n2, hmb⟩ := h.1.mb
  obtain ⟨l1, l2, l3, l4, l5, l6, l7⟩ := h.1.lo
  have hlen : (ps.drop k).length = (ps.drop (k + 1)).length + 1 := by rw [hd]; rfl
  rw [hd] at hq
  obtain ⟨b, off, cap, hv, hcap, hqb, hlt, e0, e1, hq'⟩ := hq.head
  rw [hv, ← hlen] at hblk
  refine ⟨b, off, cap, hblk, by omega, by omega, hlt, e0, e1, fun W ao hb hao => ?_⟩
  have hlw := hb.size
  have hqw : QueueP (W.setCell ⟨P, 6, none⟩ (.slice ao ((ps.drop k).length - 1) (cap - 1))) Q0 (.slice ao ((ps.drop k).length - 1) (cap - 1)) (ps.drop (k + 1)) := by
    have h1 := hq'.keep (w' := W.setCell ⟨P, 6, none⟩ (.slice ao ((ps.drop k).length - 1) (cap - 1))) (by simpa [World.setCell] using hb.size) (fun k hk hk2 => (Below.heap_setCell W ⟨P, 6, none⟩ _ k (by dsimp only; omega)).trans (hb.block k hk2))
    rw [hlen, Nat.add_sub_cancel]
    by_cases h1c : 1 < cap
    · rw [hao h1c]; rw [hlen, Nat.add_sub_cancel, hao h1c] at h1; exact h1
    · obtain ⟨ao', b', off', cap', hv', hc', hq2⟩ := h1
      rw [hlen, Nat.add_sub_cancel] at hc'
      have hc0 : cap - 1 = 0 := by omega
      have e2 : (ps.drop (k + 1)).length = 0 := by omega
      simp only [Value.slice.injEq] at hv'
      obtain ⟨-, -, rfl⟩ := hv'
      refine ⟨ao, b', off', cap - 1, rfl, ⟨hc'.le, fun h => absurd h (by omega), fun h => absurd h (by omega), hc'.oldsLen, hc'.olds, hc'.spare⟩, fun h => absurd h (by omega)⟩
  have hbl := (hblk.below hb hblk.lt).set_ 6 (.slice ao ((ps.drop k).length - 1) (cap - 1))
  refine ⟨⟨⟨⟨ao, _, _, hbl, hqw⟩, ⟨n1, (hma.below hb hma.lt).setCell _ _ (fun e => l4 e.symm)⟩, ⟨n2, (hmb.below hb hmb.lt).setCell _ _ (fun e => l5 e.symm)⟩, l1, l2, l3, l4, l5, l6, ?_⟩, h.2.1, hk⟩, (turned_of_below hb).setCell (.inl (.inl rfl)) _⟩
  simpa [World.setCell] using Nat.le_trans l7 hb.size
end Go.Proofs.Ytjpppdacamhhfaa
