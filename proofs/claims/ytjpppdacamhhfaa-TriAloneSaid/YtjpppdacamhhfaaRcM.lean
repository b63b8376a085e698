/- vast, the library's ordering as it lies here, and reach.Reach: what they compute (several texts in one). Conditions: numbers of 64 bits. -/
import Derived.Test.YtjpppdacamhhfaaMem2
import Derived.Shelf.SlIterI.Nil
import Derived.Shelf.SortM.Plain
import Derived.Shelf.SortM.SortNone
import Derived.Ground.GgzProg
import Derived.Ground.SlgmProg
import Derived.Test.YtjpppdacamhhfaaProg
import Derived.Test.YtjpppdacamhhfaaSeen
import Derived.Test.YtjpppdacamhhfaaDone
import Derived.Test.YtjpppdacamhhfaaMem5
namespace Go.Proofs.Ytjpppdacamhhfaa
open Go.RowKit
set_option linter.unusedVariables false

theorem vastv_any (ws rs fr : List Int) (A B C : Option Addr) (c d c' : Nat) (w : World) :
    Calls Try.prog 53 #[.agg #[.slice A ws.length c], .slice B rs.length d, .slice C fr.length c'] w fun e w' => e = .returned (.bool (decide (5000 < ws.length) || decide (5000 < rs.length) || decide (5000 < fr.length))) ∧ Below w.heap.size w w' := by
  by_cases h1 : 5000 < ws.length
  · go_enter Try.func53, Try.ntmps53
    go_wp2
    go_ret
    exact ⟨ret_bool (by simp), (Below.refl _ _).alloc (Nat.le_refl _) _⟩
  · by_cases h2 : 5000 < rs.length
    · go_enter Try.func53, Try.ntmps53
      go_wp2
      go_ret
      exact ⟨ret_bool (by simp), (Below.refl _ _).alloc (Nat.le_refl _) _⟩
    · go_enter Try.func53, Try.ntmps53
      go_wp2
      go_ret
      exact ⟨ret_bool (by rw [decide_eq_decide.2 (show (5000 : Int) < (ws.length : Int) ↔ 5000 < ws.length by omega), decide_eq_decide.2 (show (5000 : Int) < (rs.length : Int) ↔ 5000 < rs.length by omega), decide_eq_decide.2 (show (5000 : Int) < (fr.length : Int) ↔ 5000 < fr.length by omega)]), (Below.refl _ _).alloc (Nat.le_refl _) _⟩

theorem vastk_any (ws rs fr : List Int) (A B C : Option Addr) (c d c' : Nat) (w : World) :
    Calls Try.prog 69 #[.agg #[.slice A ws.length c], .slice B rs.length d, .slice C fr.length c'] w fun e w' => e = .returned (.bool (decide (5000 < ws.length) || decide (5000 < rs.length) || decide (5000 < fr.length))) ∧ Below w.heap.size w w' := by
  by_cases h1 : 5000 < ws.length
  · go_enter Try.func69, Try.ntmps69
    go_wp2
    go_ret
    exact ⟨ret_bool (by simp), (Below.refl _ _).alloc (Nat.le_refl _) _⟩
  · by_cases h2 : 5000 < rs.length
    · go_enter Try.func69, Try.ntmps69
      go_wp2
      go_ret
      exact ⟨ret_bool (by simp), (Below.refl _ _).alloc (Nat.le_refl _) _⟩
    · go_enter Try.func69, Try.ntmps69
      go_wp2
      go_ret
      exact ⟨ret_bool (by rw [decide_eq_decide.2 (show (5000 : Int) < (ws.length : Int) ↔ 5000 < ws.length by omega), decide_eq_decide.2 (show (5000 : Int) < (rs.length : Int) ↔ 5000 < rs.length by omega), decide_eq_decide.2 (show (5000 : Int) < (fr.length : Int) ↔ 5000 < fr.length by omega)]), (Below.refl _ _).alloc (Nat.le_refl _) _⟩

/-- A row of the call's own, as a slice. -/
theorem own_ints' {w : World} {base n c : Nat} {A : Option Addr} {xs : List Int} (h : Own w base (.slice A n c) xs) : Ints w A xs ∧ n = xs.length ∧ n ≤ c := by
  obtain ⟨A', c', hv, hA, hc, hb⟩ := h.form2
  simp at hv
  obtain ⟨rfl, rfl, rfl⟩ := hv
  exact ⟨hA, rfl, hc⟩

end Go.Proofs.Ytjpppdacamhhfaa

namespace Go.Proofs
open Go.Shelf
def Try.keysA_ren : Go.Shelf.Ren := ⟨fun | 7 => 146 | 10 => 165 | n => n, fun | 23 => 132 | 26 => 3 | 3 => 128 | 28 => 179 | 0 => 0 | 27 => 178 | 33 => 113 | 4 => 4 | n => n, fun | n => n⟩
theorem Try.keysA : Go.Proofs.SlLaysZI.n7 Try.prog Try.keysA_ren := {
  mixed := by kernel_rfl
  f7 := ⟨Try.f146.name, by decide, Try.func146.trans (congrArg some (by kernel_rfl))⟩
  f10 := ⟨Try.f165.name, by decide, Try.func165.trans (congrArg some (by kernel_rfl))⟩
  t0 := Try.underlying0
  a0 := Try.isAgg0
  z0 := Try.sizeOf0
  v0 := Try.zeroValue0
  t4 := Try.underlying4
  a4 := Try.isAgg4
  z4 := Try.sizeOf4
  v4 := Try.zeroValue4
  t23 := Try.underlying132
  a23 := Try.isAgg132
  z23 := Try.sizeOf132
  v23 := Try.zeroValue132
  t26 := Try.underlying3
  a26 := Try.isAgg3
  z26 := Try.sizeOf3
  v26 := Try.zeroValue3
  t27 := Try.underlying178
  a27 := Try.isAgg178
  z27 := Try.sizeOf178
  v27 := Try.zeroValue178
  t28 := Try.underlying179
  a28 := Try.isAgg179
  z28 := Try.sizeOf179
  v28 := Try.zeroValue179
  t33 := Try.underlying113
  a33 := Try.isAgg113
  z33 := Try.sizeOf113
  v33 := Try.zeroValue113 }
def Try.sortedA_ren : Go.Shelf.Ren := ⟨fun | 6 => 145 | 8 => 163 | 9 => 164 | 11 => 168 | 13 => 170 | 12 => 169 | 23 => 180 | 24 => 181 | 14 => 171 | 15 => 172 | 16 => 173 | 17 => 174 | 18 => 175 | 19 => 176 | 20 => 177 | 21 => 178 | 22 => 179 | 25 => 182 | 26 => 183 | 27 => 184 | 28 => 185 | 29 => 186 | 30 => 187 | 31 => 188 | n => n, fun | 26 => 3 | 28 => 179 | 24 => 22 | 0 => 0 | 3 => 3 | 37 => 101 | 48 => 201 | 50 => 184 | 4 => 4 | 40 => 196 | 39 => 195 | 45 => 24 | 5 => 5 | 9 => 9 | 51 => 203 | 55 => 207 | 57 => 209 | 58 => 210 | 33 => 113 | n => n, fun | n => n⟩
theorem Try.sortedA : Go.Proofs.SlLaysZI.n6 Try.prog Try.sortedA_ren := {
  mixed := by kernel_rfl
  f6 := ⟨Try.f145.name, by decide, Try.func145.trans (congrArg some (by kernel_rfl))⟩
  f8 := ⟨Try.f163.name, by decide, Try.func163.trans (congrArg some (by kernel_rfl))⟩
  f11 := ⟨Try.f168.name, by decide, Try.func168.trans (congrArg some (by kernel_rfl))⟩
  t0 := Try.underlying0
  a0 := Try.isAgg0
  z0 := Try.sizeOf0
  v0 := Try.zeroValue0
  t24 := Try.underlying22
  a24 := Try.isAgg22
  z24 := Try.sizeOf22
  v24 := Try.zeroValue22
  t26 := Try.underlying3
  a26 := Try.isAgg3
  z26 := Try.sizeOf3
  v26 := Try.zeroValue3
  t28 := Try.underlying179
  a28 := Try.isAgg179
  z28 := Try.sizeOf179
  v28 := Try.zeroValue179
  i26 := by kernel_rfl }
def Try.sortA_ren : Go.Shelf.Ren := ⟨fun | 5 => 164 | 8 => 170 | 7 => 169 | 19 => 180 | 20 => 181 | 10 => 171 | 11 => 172 | 12 => 173 | 13 => 174 | 14 => 175 | 15 => 176 | 16 => 177 | 17 => 178 | 18 => 179 | 30 => 182 | 31 => 183 | 32 => 184 | 33 => 185 | 34 => 186 | 35 => 187 | 40 => 188 | n => n, fun | 23 => 22 | 25 => 3 | 3 => 3 | 32 => 101 | 22 => 22 | 0 => 0 | 44 => 201 | 46 => 184 | 4 => 4 | 36 => 196 | 35 => 195 | 41 => 24 | 5 => 5 | 9 => 9 | 53 => 203 | 57 => 207 | 63 => 209 | 64 => 210 | n => n, fun | n => n⟩
theorem Try.sortA : Go.Proofs.SlLaysM.n5 Try.prog Try.sortA_ren := {
  mixed := by kernel_rfl
  f5 := ⟨Try.f164.name, by decide, Try.func164.trans (congrArg some (by kernel_rfl))⟩
  f7 := ⟨Try.f169.name, by decide, Try.func169.trans (congrArg some (by kernel_rfl))⟩
  f8 := Try.func170.trans (congrArg some (by kernel_rfl))
  f10 := ⟨Try.f171.name, by decide, Try.func171.trans (congrArg some (by kernel_rfl))⟩
  f11 := ⟨Try.f172.name, by decide, Try.func172.trans (congrArg some (by kernel_rfl))⟩
  f12 := ⟨Try.f173.name, by decide, Try.func173.trans (congrArg some (by kernel_rfl))⟩
  f13 := ⟨Try.f174.name, by decide, Try.func174.trans (congrArg some (by kernel_rfl))⟩
  f14 := ⟨Try.f175.name, by decide, Try.func175.trans (congrArg some (by kernel_rfl))⟩
  f15 := ⟨Try.f176.name, by decide, Try.func176.trans (congrArg some (by kernel_rfl))⟩
  f16 := ⟨Try.f177.name, by decide, Try.func177.trans (congrArg some (by kernel_rfl))⟩
  f17 := ⟨Try.f178.name, by decide, Try.func178.trans (congrArg some (by kernel_rfl))⟩
  f18 := ⟨Try.f179.name, by decide, Try.func179.trans (congrArg some (by kernel_rfl))⟩
  f19 := Try.func180.trans (congrArg some (by kernel_rfl))
  f20 := Try.func181.trans (congrArg some (by kernel_rfl))
  f30 := ⟨Try.f182.name, by decide, Try.func182.trans (congrArg some (by kernel_rfl))⟩
  f31 := Try.func183.trans (congrArg some (by kernel_rfl))
  f32 := Try.func184.trans (congrArg some (by kernel_rfl))
  f33 := ⟨Try.f185.name, by decide, Try.func185.trans (congrArg some (by kernel_rfl))⟩
  f34 := ⟨Try.f186.name, by decide, Try.func186.trans (congrArg some (by kernel_rfl))⟩
  f35 := ⟨Try.f187.name, by decide, Try.func187.trans (congrArg some (by kernel_rfl))⟩
  f40 := ⟨Try.f188.name, by decide, Try.func188.trans (congrArg some (by kernel_rfl))⟩
  t0 := Try.underlying0
  a0 := Try.isAgg0
  z0 := Try.sizeOf0
  v0 := Try.zeroValue0
  t3 := Try.underlying3
  a3 := Try.isAgg3
  z3 := Try.sizeOf3
  v3 := Try.zeroValue3
  t4 := Try.underlying4
  a4 := Try.isAgg4
  z4 := Try.sizeOf4
  v4 := Try.zeroValue4
  t5 := Try.underlying5
  a5 := Try.isAgg5
  z5 := Try.sizeOf5
  v5 := Try.zeroValue5
  t9 := Try.underlying9
  a9 := Try.isAgg9
  z9 := Try.sizeOf9
  v9 := Try.zeroValue9
  t22 := Try.underlying22
  a22 := Try.isAgg22
  z22 := Try.sizeOf22
  v22 := Try.zeroValue22
  t23 := Try.underlying22
  a23 := Try.isAgg22
  z23 := Try.sizeOf22
  v23 := Try.zeroValue22
  t25 := Try.underlying3
  a25 := Try.isAgg3
  z25 := Try.sizeOf3
  v25 := Try.zeroValue3
  t32 := Try.underlying101
  a32 := Try.isAgg101
  z32 := Try.sizeOf101
  v32 := Try.zeroValue101
  t35 := Try.underlying195
  a35 := Try.isAgg195
  z35 := Try.sizeOf195
  v35 := Try.zeroValue195
  t36 := Try.underlying196
  a36 := Try.isAgg196
  z36 := Try.sizeOf196
  v36 := Try.zeroValue196
  t41 := Try.underlying24
  a41 := Try.isAgg24
  z41 := Try.sizeOf24
  v41 := Try.zeroValue24
  t44 := Try.underlying201
  a44 := Try.isAgg201
  z44 := Try.sizeOf201
  v44 := Try.zeroValue201
  t46 := Try.underlying184
  a46 := Try.isAgg184
  z46 := Try.sizeOf184
  v46 := Try.zeroValue184
  t53 := Try.underlying203
  a53 := Try.isAgg203
  z53 := Try.sizeOf203
  v53 := Try.zeroValue203
  t57 := Try.underlying207
  a57 := Try.isAgg207
  z57 := Try.sizeOf207
  v57 := Try.zeroValue207
  t63 := Try.underlying209
  a63 := Try.isAgg209
  z63 := Try.sizeOf209
  v63 := Try.zeroValue209
  t64 := Try.underlying210
  a64 := Try.isAgg210
  z64 := Try.sizeOf210
  v64 := Try.zeroValue210 }
end Go.Proofs

namespace Go.Proofs.Ytjpppdacamhhfaa
open Go.RowKit Go.Maps Go.Sort Go.Shelf Go.MapKept Go.ChangeMaps Go.WideShapes
open Go.WideElems (Fit rd rg)
set_option linter.unusedVariables false

theorem sortsA (m : Nat) : AnyZI.SortsIn Try.prog Try.sortedA_ren Fence.wide m :=
  ⟨fun blk off cap ss W hH hblk hsz => callsIn_wide.2 (AnyM.slices_Sort_int Try.sortA blk off cap ss W hH hblk hsz),
   fun p cap W => callsIn_wide.2 (AnyM.slices_Sort_int_none Try.sortA p cap W)⟩

theorem keys_any (mb : Option Nat) (W : World) : Calls Try.prog 146 #[.map mb] W fun e w' => e = .returned (.func (.func 165) #[] #[.pointer (some ⟨W.heap.size, 0, none⟩)]) ∧ w' = W.alloc (.cells #[.map mb] 132) := by
  refine (callsIn_wide (n := 5)).1 ?_
  exact AnyZI.keys_in Try.keysA Fence.wide 5 trivial rfl mb W

set_option maxRecDepth 100000 in
/-- A set of places reads as a map. -/
theorem MapI.owns {w : World} {M n : Nat} {S : List Nat} (h : MapI w M n (seenM S)) (hS : S.Nodup) (hl : S.length ≤ 100000) :
    ∃ D0 : DataW Unit, w.ownsMap Try.prog 3 (fun _ => some (.lit (.int .i64 0), [])) M S.length D0 ∧ Maps.size D0 ≤ S.length ∧ (intKeys D0).Perm (S.map fun (p : Nat) => (p : Int)) := by
  obtain ⟨es, clock, hb, -, hst, hk, hf⟩ := h
  have hst2 := (stamped_iff es clock).1 hst
  have hrd : ∀ x ∈ es.toList, ∃ k : Int, x.key = .int .i64 k ∧ rd (H := Unit) Try.prog 3 (fun _ => some (.lit (.int .i64 0), [])) x = some (.int .i64 k, .lit (.int .i64 0)) ∧ 0 ≤ k ∧ k.toNat ∈ S := fun x hx => by
    obtain ⟨k, hw, e, hs⟩ := hk x hx
    refine ⟨k, e, ?_, ?_⟩
    · unfold WideElems.rd
      rw [e, key3 hw]
      rfl
    · unfold seenM at hs
      split at hs
      · rename_i hc; exact hc
      · cases hs
  have hrg : ∀ x ∈ es.toList, x.key = .int .i64 (Go.intOf (rg (H := Unit) Try.prog 3 (fun _ => some (.lit (.int .i64 0), [])) x).1) ∧ 0 ≤ Go.intOf (rg (H := Unit) Try.prog 3 (fun _ => some (.lit (.int .i64 0), [])) x).1 ∧ (Go.intOf (rg (H := Unit) Try.prog 3 (fun _ => some (.lit (.int .i64 0), [])) x).1).toNat ∈ S := fun x hx => by
    obtain ⟨k, e, hr, h0, h1⟩ := hrd x hx
    have : rg (H := Unit) Try.prog 3 (fun _ => some (.lit (.int .i64 0), [])) x = (.int .i64 k, .lit (.int .i64 0)) := by unfold WideElems.rg; rw [hr]; rfl
    rw [this]
    exact ⟨e, h0, h1⟩
  have hKnd : (es.toList.map fun x => Go.intOf (rg (H := Unit) Try.prog 3 (fun _ => some (.lit (.int .i64 0), [])) x).1).Nodup := by
    refine List.pairwise_map.2 (hst2.2.2.imp_of_mem (fun {a b} ha hb hne e => hne ?_))
    rw [(hrg a ha).1, (hrg b hb).1, e]
  have hperm : (es.toList.map fun x => Go.intOf (rg (H := Unit) Try.prog 3 (fun _ => some (.lit (.int .i64 0), [])) x).1).Perm (S.map fun (p : Nat) => (p : Int)) := by
    refine (List.perm_ext_iff_of_nodup hKnd (List.pairwise_map.2 (hS.imp (fun {a b} h e => h (by omega))))).2 (fun k => ?_)
    constructor
    · intro hm
      obtain ⟨x, hx, rfl⟩ := List.mem_map.1 hm
      obtain ⟨_, h0, h1⟩ := hrg x hx
      exact List.mem_map.2 ⟨_, h1, by omega⟩
    · intro hm
      obtain ⟨p, hp, rfl⟩ := List.mem_map.1 hm
      obtain ⟨x, hx, e⟩ := hf (p : Int) (.agg #[]) (by unfold seenM; rw [if_pos ⟨by omega, by simpa using hp⟩])
      have h2 := (hrg x hx).1
      rw [e] at h2
      exact List.mem_map.2 ⟨x, hx, by simpa using h2.symm⟩
  have hlen : es.size = S.length := by
    have := hperm.length_eq
    rw [List.length_map, List.length_map] at this
    simpa using this
  refine ⟨_, ⟨es, clock, hb, ⟨by unfold maxLen; omega, hst, fun x hx => by obtain ⟨k, _, hr, _⟩ := hrd x hx; exact ⟨_, hr⟩⟩, by omega, rfl⟩, ?_, ?_⟩
  · show ((es.toList.map _).foldr DataW.insert []).length ≤ _
    rw [(sorted_perm _).length_eq, List.length_map]
    simp only [Array.length_toList]; omega
  · show ((((es.toList.map _).foldr DataW.insert []).map _)).Perm _
    refine ((sorted_perm _).map _).trans ?_
    rw [List.map_map]
    exact hperm

/-- A set of places, in order. -/
def sortedS (S : List Nat) : List Int := (S.map fun (p : Nat) => (p : Int)).mergeSort leI
theorem sortedS_len (S : List Nat) : (sortedS S).length = S.length := by unfold sortedS; rw [List.length_mergeSort, List.length_map]
theorem sortedS_is {S L : List Nat} (h : S.Perm L) (hL : L.Pairwise (· ≤ ·)) : sortedS S = L.map fun (p : Nat) => (p : Int) := by
  unfold sortedS
  rw [mergeSort_of_perm_i (h.map _)]
  refine List.mergeSort_of_pairwise ?_
  refine List.pairwise_map.2 (hL.imp (fun {a b} h => ?_))
  simp [leI]; omega

set_option maxHeartbeats 1000000 in
theorem sorted_any (S : List Nat) (M n : Nat) (w : World) (hm : MapI w M n (seenM S)) (hS : S.Nodup) (hl : S.length ≤ 100000) :
    Calls Try.prog 145 #[.func (.func 165) #[] #[.pointer (some ⟨w.heap.size, 0, none⟩)]] (w.alloc (.cells #[.map (some M)] 132)) fun e w' => ∃ A c, e = .returned (.slice A (sortedS S).length c) ∧ Own w' w.heap.size (.slice A (sortedS S).length c) (sortedS S) ∧ Below w.heap.size w w' := by
  obtain ⟨D0, hown, hsz, hpk⟩ := hm.owns hS hl
  have hbl := hown.lt
  have hseq : SeqGives Fence.wide 2 Try.prog 165 #[.pointer (some ⟨w.heap.size, 0, none⟩)] encZ (fun ss => ss.Perm (intKeys D0)) (Maps.size D0) (w.alloc (.cells #[.map (some M)] 132)) :=
    AnyZI.keys_gives (ρ := Try.keysA_ren) { Try.keysA with } Fence.wide _ trivial rfl (by omega) w.heap.size M S.length D0 _ (by simp) (by simp) (by
      obtain ⟨es, clock, hb, Ft, hs, hD⟩ := hown
      exact ⟨es, clock, (Below.heap_alloc _ _ M hbl).trans hb, Ft, hs, hD⟩)
  have hmax : Maps.size D0 ≤ maxLen := by unfold maxLen; omega
  have cS := AnyZI.sorted_in Try.sortedA Fence.wide 5 trivial trivial trivial trivial rfl (by omega) (sortsA _) (enters_of Try.func164 (by kernel_rfl) rfl) 165 #[.pointer (some ⟨w.heap.size, 0, none⟩)] trivial (enters_of Try.func165 (by kernel_rfl) rfl) _ _ hmax (by omega) _ hseq
  change CallsIn _ _ Try.prog 145 _ _ _ at cS
  refine (callsIn_wide (n := 5)).1 (cS.mono ?_)
  rintro e w' ⟨v, ss, rfl, hSs, hrow, hnil, hb⟩
  have hs1 : ss.mergeSort leI = sortedS S := mergeSort_of_perm_i (hSs.trans hpk)
  have hs2 : ss.length = (sortedS S).length := by rw [← hs1, List.length_mergeSort]
  rw [hs2, hs1] at hrow
  have hO : Own w' w.heap.size v (sortedS S) := ownsRow_base_a hrow (by simp)
  obtain ⟨A, c, rfl, -⟩ := hO.form2
  exact ⟨A, c, rfl, hO, ((Below.refl _ w).alloc (Nat.le_refl _) _).trans (hb.mono (by simp))⟩
end Go.Proofs.Ytjpppdacamhhfaa

namespace Go.Proofs.Ytjpppdacamhhfaa
open Go.RowKit
set_option linter.unusedVariables false

def reachL (S : List Nat) : List Int := (sortedS S).map fun k => 2 * k
def ReachTold (ws rs : List Int) (w : World) (e : Ending) (w' : World) : Prop :=
  ∃ xs, (((rootsF ws rs).1 ≠ 0 ∧ xs = []) ∨ ((rootsF ws rs).1 = 0 ∧ ∃ S : List Nat, S.Nodup ∧ (∀ p, p ∈ S ↔ Rch ws rs p) ∧ xs = reachL S)) ∧ Below w.heap.size w w' ∧ ∃ A c, e = .returned (.tuple #[.slice A xs.length c, fltV (rootsF ws rs).1 (rootsF ws rs).2]) ∧ Own w' w.heap.size (.slice A xs.length c) xs
theorem sortedS_mem {S : List Nat} {k : Int} (h : k ∈ sortedS S) : ∃ p ∈ S, k = (p : Int) := by
  unfold sortedS at h
  have h2 := (List.mergeSort_perm _ _).mem_iff.1 h
  obtain ⟨p, hp, rfl⟩ := List.mem_map.1 h2
  exact ⟨p, hp, rfl⟩

set_option maxRecDepth 100000 in
set_option maxHeartbeats 2000000 in
theorem reach_any (ws rs : List Int) (A B : Option Addr) (c d : Nat) (w : World) (hA : Ints w A ws) (hcap : ws.length ≤ c) (hw : I64 ws) (hl : ws.length ≤ 9223372036854775807)
    (hB : Ints w B rs) (hr : I64 rs) (hrl : rs.length ≤ 1000000) : Calls Try.prog 87 #[.agg #[.slice A ws.length c], .slice B rs.length d] w (ReachTold ws rs w) := by
  have hx0 : Below w.heap.size w ((w.alloc (.cells #[.slice A ws.length c] 33)).alloc (.cells #[.int .i64 0, .int .i64 0] 36)) := ((Below.refl _ _).alloc (Nat.le_refl _) _).alloc (by simp) _
  have hh0 : Blk ((w.alloc (.cells #[.slice A ws.length c] 33)).alloc (.cells #[.int .i64 0, .int .i64 0] 36)) w.heap.size 33 #[.slice A ws.length c] := (Blk.new _ _ _).alloc _
  have hr2 : Blk ((w.alloc (.cells #[.slice A ws.length c] 33)).alloc (.cells #[.int .i64 0, .int .i64 0] 36)) (w.heap.size + 1) 36 #[.int .i64 0, .int .i64 0] := by
    have := Blk.new (w.alloc (.cells #[.slice A ws.length c] 33)) 36 #[.int .i64 0, .int .i64 0]
    simpa using this
  have HX0 := Lib.hid hx0; have HH0 := Lib.hid hh0; have HR2 := Lib.hid hr2
  have HA := Lib.hid (hA.below hx0); have HB := Lib.hid (hB.below hx0)
  have HW := Lib.hid hw; have HRW := Lib.hid hr
  clear hx0 hh0 hr2 hA hB hw hr
  go_enter Try.func87, Try.ntmps87
  go_wp2_with fail
  generalize hw1 : ((w.alloc (.cells #[.slice A ws.length c] 33)).alloc (.cells #[.int .i64 0, .int .i64 0] 36)) = w1 at *
  clear hw1
  refine (rsee_any ws rs A B c d w1 HA.out hcap HW.out hl HB.out HRW.out (by omega)).mono ?_
  rintro e w2 ⟨hb2, h⟩
  have HL2 := Lib.hid (HX0.out.trans (hb2.mono HX0.out.size))
  have HR22 := Lib.hid (HR2.out.below hb2 HR2.out.lt)
  have HB2 := Lib.hid (HB.out.below hb2)
  have hRlt : w.heap.size + 1 < w2.heap.size := HR22.out.lt
  clear hb2
  obtain ⟨z1, z2, z3, z4, z5⟩ := HR22.out.f2
  rcases h with ⟨h0, rfl⟩ | ⟨h0, g, rfl, hv⟩
  · have h1 : ((rootsF ws rs).1 != 0) = true := by simpa using h0
    have HN := Lib.hid h0
    clear h0
    unfold seeV fltV
    go_wp2_with fail
    go_region
    all_goals (try go_wp2)
    all_goals
      refine bodyPost_ret (v := .tuple #[.slice none 0 0, fltV (rootsF ws rs).1 (rootsF ws rs).2]) (by simp [results, Try.results87, go_sem, fltV, z1, z2, z5]) rfl ⟨[], .inl ⟨HN.out, rfl⟩, ?_, none, 0, rfl, Own.nil _ _⟩
      repeat (first | exact HL2.out | refine Below.drew ?_ | refine Below.setCell ?_ (by dsimp only; omega) _ | refine Below.alloc ?_ (by simp; omega) _)
  · obtain ⟨hokh, -, -, hfit, hz⟩ := rootsF_zero h0
    have HV := Lib.hid hv; have HOK := Lib.hid hokh; have HFIT := Lib.hid hfit; have HZ := Lib.hid hz
    have hq2 : ws.length ≤ 2000 := hokh.most
    clear hv hokh hz h0 hfit
    have hx3 : Below w2.heap.size w2 (w2.alloc (.cells #[.int .i64 0, .int .i64 0] 36)) := (Below.refl _ _).alloc (Nat.le_refl _) _
    have HF3 := Lib.hid (Blk.new w2 36 #[.int .i64 0, .int .i64 0])
    have HL3 := Lib.hid (HL2.out.trans (hx3.mono HL2.out.size))
    have HR23 := Lib.hid (HR22.out.below hx3 HR22.out.lt)
    have HB3 := Lib.hid (HB2.out.below hx3); have HV3 := Lib.hid (HV.out.below hx3)
    have hs3 : w2.heap.size < (w2.alloc (.cells #[.int .i64 0, .int .i64 0] 36)).heap.size := by simp
    clear hx3 z1 z2 z3 z4 z5
    unfold fltV
    go_wp2_with fail
    generalize hw3 : (w2.alloc (.cells #[.int .i64 0, .int .i64 0] 36)) = w3 at *
    clear hw3
    refine (seen_any ws rs g B d w3 HV3.out HOK.out HW.out HB3.out hrl HFIT.out).mono ?_
    rintro e w4 ⟨M, n, S, hnd, hS, rfl, hm, hM, hb4⟩
    have hsl : S.length ≤ 2000 := by
      have h1 : S.length ≤ (places ws).length := len_le hnd (fun p hp => ((hS p).1 hp).pl HOK.out HFIT.out)
      have := places_len ws; omega
    have HND := Lib.hid hnd; have HS := Lib.hid hS; have HM := Lib.hid hm
    have HF4 := Lib.hid (HF3.out.below hb4 hs3); have HR4 := Lib.hid (HR23.out.below hb4 HR23.out.lt)
    have HL4 := Lib.hid (HL3.out.trans (hb4.mono HL3.out.size))
    have h34 : w3.heap.size ≤ w4.heap.size := hb4.size
    clear hnd hS hm hb4 HV HV3 HB2 HB3
    go_wp2_with (go_at_call 146; refine (keys_any (some M) _).mono ?_; rintro e w5 ⟨rfl, rfl⟩)
    refine (sorted_any S M n w4 HM.out HND.out (by omega)).mono ?_
    rintro e w5 ⟨A5, c5, rfl, ho5, hb5⟩
    have HL5 := Lib.hid (HL4.out.trans (hb5.mono (by have := HL4.out.size; omega)))
    have HF5 := Lib.hid (HF4.out.below hb5 HF4.out.lt); have HR5 := Lib.hid (HR4.out.below hb5 HR4.out.lt)
    have hin : Ints w5 A5 (sortedS S) := (own_ints' ho5).1
    have HIN := Lib.hid hin
    have hbd : ∀ k ∈ sortedS S, 0 ≤ k ∧ k ≤ 2000 := fun k hk => by
      obtain ⟨p, hp, rfl⟩ := sortedS_mem hk
      have h1 := (places_mem (((HS.out p).1 hp).pl HOK.out HFIT.out)).2.1
      omega
    have HBD := Lib.hid hbd
    have hrl2 : reachL S = (sortedS S).map fun k => 2 * k := rfl
    have HRL := Lib.hid hrl2
    have hlen : (sortedS S).length ≤ 2000 := by rw [sortedS_len]; exact hsl
    have h45 : w4.heap.size ≤ w5.heap.size := hb5.size
    clear ho5 hb5 hin hbd hrl2
    generalize sortedS S = L at *
    go_wp2_with fail
    go_loopw [8, 27] (fun v i wr => ∃ j : Nat, i = .int .i64 j ∧ j ≤ L.length ∧ Below w5.heap.size w5 wr ∧ Own wr w5.heap.size v ((L.take j).map fun k => 2 * k)) (fun _ i _ => L.length - (intOf i).toNat)
    case atStart => exact ⟨0, rfl, Nat.zero_le _, Below.refl _ _, Own.nil _ _⟩
    case round =>
      obtain ⟨j, rfl, hj, hb5, hown5⟩ := hrel
      have HB5 := Lib.hid hb5; have HO5 := Lib.hid hown5
      have hws : w5.heap.size ≤ wr.heap.size := hb5.size
      clear hb5 hown5
      by_cases hjl : j < L.length
      · obtain ⟨b1, o1, rfl, hlt1, r1⟩ := HIN.out (by omega)
        have e1 := (r1.below HB5.out hlt1) j hjl
        obtain ⟨k1, k2⟩ := HBD.out (nth L j) (by rw [nth_eq hjl]; exact List.getElem_mem hjl)
        have hTK : (L.take (j + 1)).map (fun k => 2 * k) = (L.take j).map (fun k => 2 * k) ++ [2 * nth L j] := by rw [take_slot hjl, List.map_append, List.map_singleton]
        have HTK := Lib.hid hTK
        clear r1 hTK
        generalize nth L j = k at *
        have hly : ((L.take j).map fun k => 2 * k).length ≤ 1000000000 := by rw [List.length_map, List.length_take]; omega
        have HLY := Lib.hid hly
        have hz6 : w5.heap.size ≤ (wr.alloc (.cells #[.int .i64 (2 * k)] 3)).heap.size := by rw [World.size_alloc]; omega
        clear hly
        go_wp2_with (at_builtin; refine wpList_pushN rfl _ _ rfl w5.heap.size _ ((L.take j).map fun k => 2 * k) rfl (HO5.out.alloc _) wr.heap.size 1 (2 * k) rfl (cell_new wr _ _ _ 0) HLY.out hz6 ?_; intro g6 n6 cap6 w6 hown6 hg6 hgr6; have HO6 := Lib.hid hown6; have HB6 := Lib.hid ((HB5.out.alloc hws _).grown hgr6 hz6 (fun q hq => (HO5.out.lt q hq).1)); clear hown6 hgr6)
        go_roundw
        case rel => exact ⟨j + 1, by go_num, by omega, HB6.out, by rw [HTK.out]; exact HO6.out⟩
        case measure => simp [intOf]; omega
      · obtain rfl : j = L.length := by omega
        have hO5 := HO5.out
        rw [List.take_length, ← HRL.out] at hO5
        obtain ⟨A6, c6, rfl, -⟩ := hO5.form2
        obtain ⟨z1, z2, z3, z4, z5⟩ := (HR5.out.below HB5.out HR5.out.lt).f2
        obtain ⟨r1, r2, r3, r4, r5⟩ := (HF5.out.below HB5.out HF5.out.lt).f2
        have HO6 := Lib.hid hO5
        have HL6 := Lib.hid (HL5.out.trans (HB5.out.mono (by have := HL5.out.size; omega)))
        have hl1 : w.heap.size + 1 < w5.heap.size := by omega
        clear hO5
        go_wp2_with fail
        go_region
        all_goals (try go_wp2)
        all_goals
          refine bodyPost_ret (v := .tuple #[.slice A6 (reachL S).length c6, fltV 0 0]) (by simp [results, Try.results87, go_sem, fltV, z1, z2]) rfl ⟨reachL S, .inr ⟨by rw [HZ.out], S, HND.out, HS.out, rfl⟩, ?_, A6, c6, by rw [HZ.out], ?_⟩
          · repeat (first | exact HL6.out | refine Below.drew ?_ | refine Below.setCell ?_ (by dsimp only; omega) _ | refine Below.alloc ?_ (by simp; omega) _)
          · have hoo := HO6.out.mono (show w.heap.size ≤ w5.heap.size by omega)
            repeat (first | exact hoo | refine Own.setCell ?_ _ (fun e => by have := (HO6.out.lt _ e).1; dsimp only at this; omega) _ | refine Own.alloc ?_ _ | refine Own.drewN ?_ 1)
end Go.Proofs.Ytjpppdacamhhfaa
