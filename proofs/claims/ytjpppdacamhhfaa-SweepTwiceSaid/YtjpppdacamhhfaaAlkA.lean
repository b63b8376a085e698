/- (*pairs).alike: two references held against each other. Conditions: references that fit. -/
import Derived.Test.YtjpppdacamhhfaaQueue
import Derived.Test.YtjpppdacamhhfaaSeen
import Derived.Test.YtjpppdacamhhfaaEntry2
import Derived.BigRegion
namespace Go.Proofs.Ytjpppdacamhhfaa
open Go.RowKit
set_option linter.unusedVariables false

/-- Who is given to whom, as a map. -/
def toM (ps : List (Nat × Nat)) : Int → Option Value := fun k => if 0 ≤ k then (ps.find? fun p => p.1 == k.toNat).map fun p => .int .i64 (p.2 : Int) else none
theorem toM_nil : toM [] = fun _ => none := by funext k; simp [toM]
theorem toM_none {ps : List (Nat × Nat)} {x : Nat} (h : x ∉ ps.map Prod.fst) : toM ps (x : Int) = none := by
  unfold toM
  rw [if_pos (by omega)]
  have : ps.find? (fun p => p.1 == ((x : Nat) : Int).toNat) = none := by
    rw [List.find?_eq_none]
    intro p hp
    simp only [Int.toNat_natCast, beq_iff_eq]
    intro e
    exact h (List.mem_map.2 ⟨p, hp, e⟩)
  rw [this]; rfl
theorem toM_some {ps : List (Nat × Nat)} (hn : (ps.map Prod.fst).Nodup) {x y : Nat} (h : (x, y) ∈ ps) : toM ps (x : Int) = some (.int .i64 (y : Int)) := by
  unfold toM
  rw [if_pos (by omega)]
  cases hf : ps.find? (fun p => p.1 == ((x : Nat) : Int).toNat) with
  | none =>
    rw [List.find?_eq_none] at hf
    have := hf _ h
    simp at this
  | some p =>
    obtain ⟨a, b⟩ := p
    have h1 := List.find?_some hf
    have h2 := List.mem_of_find?_eq_some hf
    simp at h1
    subst h1
    rw [nodup_fst hn h2 h]; rfl
theorem toM_push {ps : List (Nat × Nat)} {x y : Nat} (h : x ∉ ps.map Prod.fst) : put (toM ps) (x : Int) (.int .i64 (y : Int)) = toM (ps ++ [(x, y)]) := by
  funext k
  by_cases e : k = (x : Int)
  · subst e
    rw [put_same]
    unfold toM
    rw [if_pos (by omega), List.find?_append]
    have : ps.find? (fun p => p.1 == ((x : Nat) : Int).toNat) = none := by
      rw [List.find?_eq_none]
      intro p hp
      simp only [Int.toNat_natCast, beq_iff_eq]
      intro e
      exact h (List.mem_map.2 ⟨p, hp, e⟩)
    rw [this]; simp
  · rw [put_other _ _ e]
    unfold toM
    by_cases h0 : 0 ≤ k
    · rw [if_pos h0, if_pos h0, List.find?_append]
      have hne : (x == k.toNat) = false := by simp; omega
      cases ps.find? (fun p => p.1 == k.toNat) with
      | none => simp [hne]
      | some p => rfl
    · rw [if_neg h0, if_neg h0]
theorem swap_fst (ps : List (Nat × Nat)) : (ps.map Prod.swap).map Prod.fst = ps.map Prod.snd := by rw [List.map_map]; rfl
theorem swap_mem {ps : List (Nat × Nat)} {x y : Nat} : (y, x) ∈ ps.map Prod.swap ↔ (x, y) ∈ ps := by
  constructor
  · intro h
    obtain ⟨⟨a, b⟩, hm, e⟩ := List.mem_map.1 h
    simp at e
    obtain ⟨rfl, rfl⟩ := e
    exact hm
  · exact fun h => List.mem_map.2 ⟨_, h, rfl⟩

/-- Two heaps held against each other, in memory. -/
structure AlkS (P Q0 ga Sa Ma gb Sb Mb : Nat) (ps : List (Nat × Nat)) (k : Nat) (w : World) : Prop where
  blk : ∃ A n c, Blk w P 156 #[.pointer (some ⟨ga, 0, none⟩), .map (some Sa), .map (some Ma), .pointer (some ⟨gb, 0, none⟩), .map (some Sb), .map (some Mb), .slice A n c] ∧ QueueP w Q0 (.slice A n c) (ps.drop k)
  ma : ∃ n, MapI w Ma n (toM ps)
  mb : ∃ n, MapI w Mb n (toM (ps.map Prod.swap))
  lo : P < Q0 ∧ Ma < Q0 ∧ Mb < Q0 ∧ P ≠ Ma ∧ P ≠ Mb ∧ Ma ≠ Mb ∧ Q0 ≤ w.heap.size
/-- What may turn. -/
abbrev alkT (P Q0 Ma Mb : Nat) : Nat → Prop := fun k => k = P ∨ k = Ma ∨ k = Mb ∨ Q0 ≤ k
theorem AlkS.keep {P Q0 ga Sa Ma gb Sb Mb k : Nat} {ps : List (Nat × Nat)} {w w' : World} (h : AlkS P Q0 ga Sa Ma gb Sb Mb ps k w) (hb : Below w.heap.size w w') : AlkS P Q0 ga Sa Ma gb Sb Mb ps k w' := by
  obtain ⟨A, n, c, h1, h2⟩ := h.blk
  obtain ⟨n1, h3⟩ := h.ma
  obtain ⟨n2, h4⟩ := h.mb
  exact ⟨⟨A, n, c, h1.below hb h1.lt, h2.keep hb.size (fun k _ hk => hb.block k hk)⟩, ⟨n1, h3.below hb h3.lt⟩, ⟨n2, h4.below hb h4.lt⟩, h.lo.1, h.lo.2.1, h.lo.2.2.1, h.lo.2.2.2.1, h.lo.2.2.2.2.1, h.lo.2.2.2.2.2.1, Nat.le_trans h.lo.2.2.2.2.2.2 hb.size⟩
theorem turned_of_below {w w' : World} {S : Nat → Prop} (h : Below w.heap.size w w') : Turned w w' S := ⟨h.os, h.tape, h.output, h.size, fun k hk _ => h.block k hk⟩
section
variable {w : World} {g : Nat} {t : TypeId} {c0 c1 c2 c3 c4 c5 c6 : Value}
theorem Blk.f7 (h : Blk w g t #[c0, c1, c2, c3, c4, c5, c6]) : w.cell? ⟨g, 0, none⟩ = some c0 ∧ w.cell? ⟨g, 1, none⟩ = some c1 ∧ w.cell? ⟨g, 2, none⟩ = some c2 ∧ w.cell? ⟨g, 3, none⟩ = some c3 ∧ w.cell? ⟨g, 4, none⟩ = some c4 ∧ w.cell? ⟨g, 5, none⟩ = some c5 ∧ w.cell? ⟨g, 6, none⟩ = some c6 ∧ w.frozen? ⟨g, 6, none⟩ = false ∧ g < w.heap.size :=
  ⟨h.cell 0, h.cell 1, h.cell 2, h.cell 3, h.cell 4, h.cell 5, h.cell 6, h.frozen 6, h.lt⟩
end
def AlkEnd (P Q0 ga Sa Ma gb Sb Mb : Nat) (k : Nat) (r : Bool × List (Nat × Nat)) (w : World) (e : Ending) (w' : World) : Prop :=
  e = .returned (.bool r.1) ∧ AlkS P Q0 ga Sa Ma gb Sb Mb r.2 k w' ∧ Turned w w' (alkT P Q0 Ma Mb)

set_option maxRecDepth 100000 in
set_option maxHeartbeats 4000000 in
theorem alike_any (P Q0 ga Sa Ma gb Sb Mb : Nat) (f g : Nat → Bool) (ws vs : List Int) (ps : List (Nat × Nat)) (k : Nat) (o q : Int) (w : World) (hS : AlkS P Q0 ga Sa Ma gb Sb Mb ps k w) (hI : PairsI f g ps) (hk : k ≤ ps.length) (hpl : ps.length ≤ 100000)
    (ho : fitsB ws o = true) (hq : fitsB vs q = true) :
    Calls Try.prog 129 #[.pointer (some ⟨P, 0, none⟩), .int .i64 o, .int .i64 q] w (AlkEnd P Q0 ga Sa Ma gb Sb Mb k (alP ps o q) w) := by
  obtain ⟨x1, x2⟩ := fits_bd ho
  obtain ⟨x3, x4⟩ := fits_bd hq
  have HS := Lib.hid hS
  by_cases h1 : kd o ≠ 3 ∨ kd q ≠ 3
  · have hal : alP ps o q = (decide (o = q), ps) := by unfold alP; rw [if_pos h1]
    have HAL := Lib.hid hal
    by_cases ho3 : kd o = 3
    · have hq3 : kd q ≠ 3 := h1.resolve_left (fun e => e ho3)
      have b1 : (kd o != 3) = false := by simpa using ho3
      have b2 : (kd q != 3) = true := by simpa using hq3
      clear hS hI ho hq h1 ho3 hq3 hal
      go_enter Try.func129, Try.ntmps129
      go_wp2_with (go_at_call 31; refine (kind_any _ _ (by omega) (by omega)).mono ?_; rintro e w' ⟨rfl, rfl⟩)
      go_ret
      rw [HAL.out]
      exact ⟨rfl, HS.out, Turned.refl _ _⟩
    · have b1 : (kd o != 3) = true := by simpa using ho3
      clear hS hI ho hq h1 ho3 hal
      go_enter Try.func129, Try.ntmps129
      go_wp2_with (go_at_call 31; refine (kind_any _ _ (by omega) (by omega)).mono ?_; rintro e w' ⟨rfl, rfl⟩)
      go_ret
      rw [HAL.out]
      exact ⟨rfl, HS.out, Turned.refl _ _⟩
  · have ho3 : kd o = 3 := Classical.byContradiction fun e => h1 (.inl e)
    have hq3 : kd q = 3 := Classical.byContradiction fun e => h1 (.inr e)
    have b1 : (kd o != 3) = false := by simpa using ho3
    have b2 : (kd q != 3) = false := by simpa using hq3
    obtain ⟨o1, o2, o3⟩ := (kd_three o).1 ho3
    obtain ⟨q1, q2, q3⟩ := (kd_three q).1 hq3
    have e1 : o / 2 = ((pcl o : Nat) : Int) := by unfold pcl; omega
    have e2 : o.tdiv 2 = ((pcl o : Nat) : Int) := by rw [Int.tdiv_eq_ediv_of_nonneg (by omega)]; exact e1
    have e3 : q / 2 = ((pcl q : Nat) : Int) := by unfold pcl; omega
    have e4 : q.tdiv 2 = ((pcl q : Nat) : Int) := by rw [Int.tdiv_eq_ediv_of_nonneg (by omega)]; exact e3
    have p1 : pcl o ≤ 5000 := by omega
    have p2 : pcl q ≤ 5000 := by omega
    have e5 : IntKind.i64.wrap ((pcl o : Nat) : Int) = ((pcl o : Nat) : Int) := IntWalk.i64_in _ (by omega)
    have e6 : IntKind.i64.wrap ((pcl q : Nat) : Int) = ((pcl q : Nat) : Int) := IntWalk.i64_in _ (by omega)
    obtain ⟨A, nq, cq, hblk, hqu⟩ := hS.blk
    obtain ⟨n1, hma⟩ := hS.ma
    obtain ⟨n2, hmb⟩ := hS.mb
    obtain ⟨c0, c1, c2, c3, c4, c5, c6, cf, clt⟩ := hblk.f7
    have hra := hma.look (t := 110) (e := 3) Try.underlying110 (zero3 _) true ((pcl o : Nat) : Int) (by omega) (by omega)
    have hrb := hmb.look (t := 110) (e := 3) Try.underlying110 (zero3 _) true ((pcl q : Nat) : Int) (by omega) (by omega)
    simp only [if_true] at hra hrb
    have hsn : ((ps.map Prod.swap).map Prod.fst).Nodup := by rw [swap_fst]; exact hI.sn
    by_cases hin : (pcl o, pcl q) ∈ ps
    · have hal : alP ps o q = (true, ps) := by unfold alP; rw [if_neg h1, if_pos hin]
      have HAL := Lib.hid hal
      rw [toM_some hI.fn hin] at hra
      rw [toM_some hsn (swap_mem.2 hin)] at hrb
      simp only [Option.getD_some, Option.isSome_some] at hra hrb
      clear hS hI ho hq h1 ho3 hq3 hal hblk hqu hma hmb hsn hin
      go_enter Try.func129, Try.ntmps129
      go_wp2_with (go_at_call 31; refine (kind_any _ _ (by omega) (by omega)).mono ?_; rintro e w' ⟨rfl, rfl⟩)
      go_ret
      rw [HAL.out]
      exact ⟨rfl, HS.out, Turned.refl _ _⟩
    · by_cases hor : pcl o ∈ ps.map Prod.fst ∨ pcl q ∈ ps.map Prod.snd
      · have hal : alP ps o q = (false, ps) := by unfold alP; rw [if_neg h1, if_neg hin, if_pos hor]
        have HAL := Lib.hid hal
        by_cases hf : pcl o ∈ ps.map Prod.fst
        · obtain ⟨y, hy⟩ := mem_fst hf
          have hne : y ≠ pcl q := fun e => hin (by rw [← e]; exact hy)
          rw [toM_some hI.fn hy] at hra
          simp only [Option.getD_some, Option.isSome_some] at hra
          have hneb : (((y : Nat) : Int) == ((pcl q : Nat) : Int)) = false := by simp; omega
          by_cases hg : pcl q ∈ ps.map Prod.snd
          · obtain ⟨x, hx⟩ := mem_snd hg
            rw [toM_some hsn (swap_mem.2 hx)] at hrb
            simp only [Option.getD_some, Option.isSome_some] at hrb
            clear hS hI ho hq h1 ho3 hq3 hal hblk hqu hma hmb hsn hin hor hf hg hy hx hne
            go_enter Try.func129, Try.ntmps129
            go_wp2_with (go_at_call 31; refine (kind_any _ _ (by omega) (by omega)).mono ?_; rintro e w' ⟨rfl, rfl⟩)
            go_ret
            rw [HAL.out]
            exact ⟨rfl, HS.out, Turned.refl _ _⟩
          · rw [toM_none (by rw [swap_fst]; exact hg)] at hrb
            simp only [Option.getD_none, Option.isSome_none] at hrb
            clear hS hI ho hq h1 ho3 hq3 hal hblk hqu hma hmb hsn hin hor hf hg hy hne
            go_enter Try.func129, Try.ntmps129
            go_wp2_with (go_at_call 31; refine (kind_any _ _ (by omega) (by omega)).mono ?_; rintro e w' ⟨rfl, rfl⟩)
            go_ret
            rw [HAL.out]
            exact ⟨rfl, HS.out, Turned.refl _ _⟩
        · obtain ⟨x, hx⟩ := mem_snd (hor.resolve_left hf)
          rw [toM_none hf] at hra
          simp only [Option.getD_none, Option.isSome_none] at hra
          rw [toM_some hsn (swap_mem.2 hx)] at hrb
          simp only [Option.getD_some, Option.isSome_some] at hrb
          clear hS hI ho hq h1 ho3 hq3 hal hblk hqu hma hmb hsn hin hor hf hx
          go_enter Try.func129, Try.ntmps129
          go_wp2_with (go_at_call 31; refine (kind_any _ _ (by omega) (by omega)).mono ?_; rintro e w' ⟨rfl, rfl⟩)
          go_ret
          rw [HAL.out]
          exact ⟨rfl, HS.out, Turned.refl _ _⟩
      · have hal : alP ps o q = (true, ps ++ [(pcl o, pcl q)]) := by unfold alP; rw [if_neg h1, if_neg hin, if_neg hor]
        have hf : pcl o ∉ ps.map Prod.fst := fun e => hor (.inl e)
        have hg : pcl q ∉ ps.map Prod.snd := fun e => hor (.inr e)
        rw [toM_none hf] at hra
        rw [toM_none (by rw [swap_fst]; exact hg)] at hrb
        simp only [Option.getD_none, Option.isSome_none] at hra hrb
        have HAL := Lib.hid hal
        have hd : Turned w w.drew (alkT P Q0 Ma Mb) := (Turned.refl w _).drewN 1
        obtain ⟨l1, l2, l3, l4, l5, l6, l7⟩ := hS.lo
        obtain ⟨st, tt, w10, w20, w01, w02, w11, w12, w21, w22, hst, hm1, hm2⟩ := two_entries hma.drew hmb.drew l6 (toM_none hf) (toM_none (by rw [swap_fst]; exact hg)) (wf_i64' (k := ((pcl o : Nat) : Int)) (by omega) (by omega)) (wf_i64' (k := ((pcl q : Nat) : Int)) (by omega) (by omega)) ((pcl q : Nat) : Int) ((pcl o : Nat) : Int)
        rw [toM_push hf] at hm1
        rw [toM_push (by rw [swap_fst]; exact hg)] at hm2
        have HM1 := Lib.hid hm1; have HM2 := Lib.hid hm2
        obtain ⟨a00, a01, a02, a10, a11, a12, b00, b10, b20, b01, b11, b21, t10, t20, t01, t02, t11, t12, t21, t22⟩ := hst
        have hP : ∀ u, Turned w.drew u (fun k => k = Ma ∨ k = Mb) → u.cell? ⟨P, 2, none⟩ = some (.map (some Ma)) ∧ u.cell? ⟨P, 5, none⟩ = some (.map (some Mb)) := fun u hu => by
          have hbu := hu.blk hblk.drew (fun e => by rcases e with e | e; exact l4 e; exact l5 e)
          exact ⟨hbu.f7.2.2.1, hbu.f7.2.2.2.2.2.1⟩
        have T22 := Lib.hid t22
        have HB22 := Lib.hid (t22.blk hblk.drew (fun e => by rcases e with e | e; exact l4 e; exact l5 e))
        obtain ⟨-, -, -, -, -, -, v6, v7, v8⟩ := HB22.out.f7
        have hq22 := hqu.keep (w' := w22) t22.size (fun k h1 h2 => t22.block k h2 (fun e => by rcases e with e | e <;> omega))
        have HQ9 := Lib.hid (hq22.keep (w' := w22.alloc (.cells #[.int .i64 ((pcl o : Nat) : Int), .int .i64 ((pcl q : Nat) : Int)] 158)) (by simp) (fun k _ h2 => Below.heap_alloc w22 _ k h2))
        have hdl : (ps.drop k).length ≤ 1000000 := by rw [List.length_drop]; omega
        have HDL := Lib.hid hdl
        have l8 : Q0 ≤ w22.heap.size := Nat.le_trans l7 t22.size
        obtain ⟨u1, u2⟩ := hP _ t10; obtain ⟨u3, u4⟩ := hP _ t20; obtain ⟨u5, u6⟩ := hP _ t01; obtain ⟨u7, u8⟩ := hP _ t02
        obtain ⟨u9, u10⟩ := hP _ t11; obtain ⟨u11, u12⟩ := hP _ t12; obtain ⟨u13, u14⟩ := hP _ t21; obtain ⟨u15, u16⟩ := hP _ t22
        clear hS ho hq h1 ho3 hq3 hal hblk hqu hma hmb hsn hin hor hf hg hI hm1 hm2 t10 t20 t01 t02 t11 t12 t21 t22 hP hd hq22 hdl
        go_enter Try.func129, Try.ntmps129
        go_wp2_with (go_at_call 31; refine (kind_any _ _ (by omega) (by omega)).mono ?_; rintro e w' ⟨rfl, rfl⟩)
        go_region
        go_wp2_with (at_builtin; refine wpList_queue rfl _ _ rfl rfl HQ9.out (pcl o) (pcl q) w22.heap.size 1 rfl (cell_new w22 _ _ _ 0) (cell_new w22 _ _ _ 1) HDL.out (by rw [World.size_alloc]; omega) ?_; intro A9 n9 c9 w9 hq9 ht9; have HQA := Lib.hid hq9; have HT9 := Lib.hid ht9; obtain ⟨-, -, -, -, -, -, y6, y7, y8⟩ := (ht9.blk (HB22.out.alloc _) (by omega)).f7; clear hq9 ht9)
        go_ret
        rw [HAL.out]
        have hb9 := HT9.out.blk (HB22.out.alloc (.cells #[.int .i64 ((pcl o : Nat) : Int), .int .i64 ((pcl q : Nat) : Int)] 158)) (show ¬ Q0 ≤ P by omega)
        have hma9 := (HT9.out.map (HM1.out.alloc (.cells #[.int .i64 ((pcl o : Nat) : Int), .int .i64 ((pcl q : Nat) : Int)] 158)) (show ¬ Q0 ≤ Ma by omega)).setCell ⟨P, 6, none⟩ (.slice A9 n9 c9) (fun e => l4 e.symm)
        have hmb9 := (HT9.out.map (HM2.out.alloc (.cells #[.int .i64 ((pcl o : Nat) : Int), .int .i64 ((pcl q : Nat) : Int)] 158)) (show ¬ Q0 ≤ Mb by omega)).setCell ⟨P, 6, none⟩ (.slice A9 n9 c9) (fun e => l5 e.symm)
        have hT := ((((Turned.refl w (alkT P Q0 Ma Mb)).drewN 1).trans T22.out (fun k _ e => by rcases e with e | e; exact .inr (.inl e); exact .inr (.inr (.inl e)))).alloc (.cells #[.int .i64 ((pcl o : Nat) : Int), .int .i64 ((pcl q : Nat) : Int)] 158)).trans HT9.out (fun k _ e => .inr (.inr (.inr e)))
        have hT2 := hT.setCell (p := ⟨P, 6, none⟩) (.inl (.inl rfl)) (.slice A9 n9 c9)
        refine ⟨rfl, ⟨⟨A9, n9, c9, hb9.set_ 6 (.slice A9 n9 c9), ?_⟩, ⟨_, hma9⟩, ⟨_, by rw [List.map_append]; exact hmb9⟩, l1, l2, l3, l4, l5, l6, Nat.le_trans l7 hT2.size⟩, hT2⟩
        rw [List.drop_append_of_le_length hk]
        exact HQA.out.keep (by simp [World.setCell]) (fun k hk _ => Below.heap_setCell w9 ⟨P, 6, none⟩ _ k (by dsimp only; omega))
end Go.Proofs.Ytjpppdacamhhfaa
