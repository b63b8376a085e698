/- slices.Sorted(maps.Keys(m)) of a set of places: the places in order. Conditions: the set is small. -/
import Derived.Test.YtjpppdacamhhfaaLaid
import Derived.Test.YtjpppdacamhhfaaSeen
namespace Go.Proofs.Ytjpppdacamhhfaa
open Go.RowKit Go.Maps Go.Sort Go.Shelf Go.MapKept Go.ChangeMaps Go.WideShapes
open Go.WideElems (Fit rd rg)
set_option linter.unusedVariables false

theorem sortsA (m : Nat) : AnyZI.SortsIn Try.prog Try.sortedA_ren Fence.wide m :=
  ⟨fun blk off cap ss W hH hblk hsz => callsIn_wide.2 (AnyM.slices_Sort_int Try.sortA blk off cap ss W hH hblk hsz),
   fun p cap W => callsIn_wide.2 (AnyM.slices_Sort_int_none Try.sortA p cap W)⟩

theorem keys_any (mb : Option Nat) (W : World) : Calls Try.prog 146 #[.map mb] W fun e w' => e = .returned (.func (.func 165) #[] #[.pointer (some ⟨W.heap.size, 0, none⟩)]) ∧ w' = W.alloc (.cells #[.map mb] 132) := by
  refine (callsIn_wide (n := 5)).1 ?_
  exact AnyZI.keys_in Try.keysA Fence.wide 5 trivial rfl mb W

set_option maxRecDepth 100000 in
/-- A set of places reads as a map. -/
theorem MapI.owns {w : World} {M n : Nat} {S : List Nat} (h : MapI w M n (seenM S)) (hS : S.Nodup) (hl : S.length ≤ 100000) :
    ∃ D0 : DataW Unit, w.ownsMap Try.prog 3 (fun _ => some (.lit (.int .i64 0), [])) M S.length D0 ∧ Maps.size D0 ≤ S.length ∧ (intKeys D0).Perm (S.map fun (p : Nat) => (p : Int)) := by
  obtain ⟨es, clock, hb, -, hst, hk, hf⟩ := h
  have hst2 := (stamped_iff es clock).1 hst
  have hrd : ∀ x ∈ es.toList, ∃ k : Int, x.key = .int .i64 k ∧ rd (H := Unit) Try.prog 3 (fun _ => some (.lit (.int .i64 0), [])) x = some (.int .i64 k, .lit (.int .i64 0)) ∧ 0 ≤ k ∧ k.toNat ∈ S := fun x hx => by
    obtain ⟨k, hw, e, hs⟩ := hk x hx
    refine ⟨k, e, ?_, ?_⟩
    · unfold WideElems.rd
      rw [e, key3 hw]
      rfl
    · unfold seenM at hs
      split at hs
      · rename_i hc; exact hc
      · cases hs
  have hrg : ∀ x ∈ es.toList, x.key = .int .i64 (Go.intOf (rg (H := Unit) Try.prog 3 (fun _ => some (.lit (.int .i64 0), [])) x).1) ∧ 0 ≤ Go.intOf (rg (H := Unit) Try.prog 3 (fun _ => some (.lit (.int .i64 0), [])) x).1 ∧ (Go.intOf (rg (H := Unit) Try.prog 3 (fun _ => some (.lit (.int .i64 0), [])) x).1).toNat ∈ S := fun x hx => by
    obtain ⟨k, e, hr, h0, h1⟩ := hrd x hx
    have : rg (H := Unit) Try.prog 3 (fun _ => some (.lit (.int .i64 0), [])) x = (.int .i64 k, .lit (.int .i64 0)) := by unfold WideElems.rg; rw [hr]; rfl
    rw [this]
    exact ⟨e, h0, h1⟩
  have hKnd : (es.toList.map fun x => Go.intOf (rg (H := Unit) Try.prog 3 (fun _ => some (.lit (.int .i64 0), [])) x).1).Nodup := by
    refine List.pairwise_map.2 (hst2.2.2.imp_of_mem (fun {a b} ha hb hne e => hne ?_))
    rw [(hrg a ha).1, (hrg b hb).1, e]
  have hperm : (es.toList.map fun x => Go.intOf (rg (H := Unit) Try.prog 3 (fun _ => some (.lit (.int .i64 0), [])) x).1).Perm (S.map fun (p : Nat) => (p : Int)) := by
    refine (List.perm_ext_iff_of_nodup hKnd (List.pairwise_map.2 (hS.imp (fun {a b} h e => h (by omega))))).2 (fun k => ?_)
    constructor
    · intro hm
      obtain ⟨x, hx, rfl⟩ := List.mem_map.1 hm
      obtain ⟨_, h0, h1⟩ := hrg x hx
      exact List.mem_map.2 ⟨_, h1, by omega⟩
    · intro hm
      obtain ⟨p, hp, rfl⟩ := List.mem_map.1 hm
      obtain ⟨x, hx, e⟩ := hf (p : Int) (.agg #[]) (by unfold seenM; rw [if_pos ⟨by omega, by simpa using hp⟩])
      have h2 := (hrg x hx).1
      rw [e] at h2
      exact List.mem_map.2 ⟨x, hx, by simpa using h2.symm⟩
  have hlen : es.size = S.length := by
    have := hperm.length_eq
    rw [List.length_map, List.length_map] at this
    simpa using this
  refine ⟨_, ⟨es, clock, hb, ⟨by unfold maxLen; omega, hst, fun x hx => by obtain ⟨k, _, hr, _⟩ := hrd x hx; exact ⟨_, hr⟩⟩, by omega, rfl⟩, ?_, ?_⟩
  · show ((es.toList.map _).foldr DataW.insert []).length ≤ _
    rw [(sorted_perm _).length_eq, List.length_map]
    simp only [Array.length_toList]; omega
  · show ((((es.toList.map _).foldr DataW.insert []).map _)).Perm _
    refine ((sorted_perm _).map _).trans ?_
    rw [List.map_map]
    exact hperm

/-- A set of places, in order. -/
def sortedS (S : List Nat) : List Int := (S.map fun (p : Nat) => (p : Int)).mergeSort leI
theorem sortedS_len (S : List Nat) : (sortedS S).length = S.length := by unfold sortedS; rw [List.length_mergeSort, List.length_map]
theorem sortedS_is {S L : List Nat} (h : S.Perm L) (hL : L.Pairwise (· ≤ ·)) : sortedS S = L.map fun (p : Nat) => (p : Int) := by
  unfold sortedS
  rw [mergeSort_of_perm_i (h.map _)]
  refine List.mergeSort_of_pairwise ?_
  refine List.pairwise_map.2 (hL.imp (fun {a b} h => ?_))
  simp [leI]; omega

set_option maxHeartbeats 1000000 in
theorem sorted_any (S : List Nat) (M n : Nat) (w : World) (hm : MapI w M n (seenM S)) (hS : S.Nodup) (hl : S.length ≤ 100000) :
    Calls Try.prog 145 #[.func (.func 165) #[] #[.pointer (some ⟨w.heap.size, 0, none⟩)]] (w.alloc (.cells #[.map (some M)] 132)) fun e w' => ∃ A c, e = .returned (.slice A (sortedS S).length c) ∧ Own w' w.heap.size (.slice A (sortedS S).length c) (sortedS S) ∧ Below w.heap.size w w' := by
  obtain ⟨D0, hown, hsz, hpk⟩ := hm.owns hS hl
  have hbl := hown.lt
  have hseq : SeqGives Fence.wide 2 Try.prog 165 #[.pointer (some ⟨w.heap.size, 0, none⟩)] encZ (fun ss => ss.Perm (intKeys D0)) (Maps.size D0) (w.alloc (.cells #[.map (some M)] 132)) :=
    AnyZI.keys_gives (ρ := Try.keysA_ren) { Try.keysA with } Fence.wide _ trivial rfl (by omega) w.heap.size M S.length D0 _ (by simp) (by simp) (by
      obtain ⟨es, clock, hb, Ft, hs, hD⟩ := hown
      exact ⟨es, clock, (Below.heap_alloc _ _ M hbl).trans hb, Ft, hs, hD⟩)
  have hmax : Maps.size D0 ≤ maxLen := by unfold maxLen; omega
  have cS := AnyZI.sorted_in Try.sortedA Fence.wide 5 trivial trivial trivial trivial rfl (by omega) (sortsA _) (enters_of Try.func164 (by kernel_rfl) rfl) 165 #[.pointer (some ⟨w.heap.size, 0, none⟩)] trivial (enters_of Try.func165 (by kernel_rfl) rfl) _ _ hmax (by omega) _ hseq
  change CallsIn _ _ Try.prog 145 _ _ _ at cS
  refine (callsIn_wide (n := 5)).1 (cS.mono ?_)
  rintro e w' ⟨v, ss, rfl, hSs, hrow, hnil, hb⟩
  have hs1 : ss.mergeSort leI = sortedS S := mergeSort_of_perm_i (hSs.trans hpk)
  have hs2 : ss.length = (sortedS S).length := by rw [← hs1, List.length_mergeSort]
  rw [hs2, hs1] at hrow
  have hO : Own w' w.heap.size v (sortedS S) := ownsRow_base_a hrow (by simp)
  obtain ⟨A, c, rfl, -⟩ := hO.form2
  exact ⟨A, c, rfl, hO, ((Below.refl _ w).alloc (Nat.le_refl _) _).trans (hb.mono (by simp))⟩
end Go.Proofs.Ytjpppdacamhhfaa
