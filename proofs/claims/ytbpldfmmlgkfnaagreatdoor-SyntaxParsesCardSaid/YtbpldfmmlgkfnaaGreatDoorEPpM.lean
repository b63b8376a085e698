/- Maps of texts that are written out: two keys laid in; a range over them; a look-up. Conditions: the two keys differ. -/
import Derived.Test.YtbpldfmmlgkfnaaGreatDoorEPpC
import Derived.Maps.RangeWalk
import Derived.Carry
import Derived.WideKeyEntry
namespace Go.Proofs.YtbpldfmmlgkfnaaGreatDoor
open Go.RowKit Go.Maps Go.MapKept Go.ChangeMaps
set_option linter.unusedVariables false

theorem strK : Keyed Tryz.prog 9:=string_keyed Tryz.underlying9
theorem keyS {s : ByteArray} (hs : s.size ≤ 4000) : keyOf Tryz.prog 9 (.string s) = some (.string s.data.toList):=WideMaps.keyOf_string_mk Tryz.underlying9 (Nat.le_trans hs (by decide))
abbrev ent (k : ByteArray) (v : Int) (b : Nat) : MapEntry:=⟨.string k,.int .i64 v,b⟩
/-- A key laid into a map that holds none yet, or one other. -/
theorem ins_zero {u : World} {M : Nat} {k : ByteArray} (v : Int) (hk : k.size ≤ 4000) (hu : u.heap[M]? = some (.map #[] 0)) : (Instr.mapUpdate 49 (.map (some M)) (.string k) (.int .i64 v)).run Tryz.prog u = .ok () (setBlock u M (.map #[ent k v 0] 1)):=by
 rcases strK.find u (keyS hk) [] (fun e he => absurd he List.not_mem_nil) with ⟨g1,-⟩ | ⟨j,e0,-,g2,-⟩
 ·simp [Instr.mapUpdate,run_underlying Tryz.underlying49,MapKept.run_getObj_map hu,strK.check u false (keyS hk),g1,MapKept.run_setObj_map _ hu,Result.andThen,setBlock]
 ·simp at g2
theorem ins_one {u : World} {M : Nat} {k k' : ByteArray} {v' : Int} (v : Int) (hk : k.size ≤ 4000) (hk' : k'.size ≤ 4000) (hne : k' ≠ k) (hu : u.heap[M]? = some (.map #[ent k' v' 0] 1)) : (Instr.mapUpdate 49 (.map (some M)) (.string k) (.int .i64 v)).run Tryz.prog u = .ok () (setBlock u M (.map #[ent k' v' 0,ent k v 1] 2)):=by
 rcases strK.find u (keyS hk) [ent k' v' 0] (fun e he => by rw [List.mem_singleton] at he;subst he;exact ⟨_,keyS hk'⟩) with ⟨g1,-⟩ | ⟨j,e0,-,g2,g3⟩
 ·simp [Instr.mapUpdate,run_underlying Tryz.underlying49,MapKept.run_getObj_map hu,strK.check u false (keyS hk),g1,MapKept.run_setObj_map _ hu,Result.andThen,setBlock]
 ·exfalso
  have hm:=List.mem_of_getElem? g2
  rw [List.mem_singleton] at hm
  subst hm
  cases g3
  exact hne rfl
/-- What the maps answer. -/
theorem look_map {u : World} {M clock : Nat} {es : Array MapEntry} {x : ByteArray} (hx : x.size ≤ 4000) (hu : u.heap[M]? = some (.map es clock)) (hes : ∀ e ∈ es.toList,∃ k v b,e = ent k v b ∧ k.size ≤ 4000) :
  (∃ v b,ent x v b ∈ es.toList ∧ (Instr.lookup 49 (.map (some M)) (.string x) true).run Tryz.prog u = .ok (.tuple #[.int .i64 v,.bool true]) u) ∨
  ((∀ v b,ent x v b ∉ es.toList) ∧ (Instr.lookup 49 (.map (some M)) (.string x) true).run Tryz.prog u = .ok (.tuple #[.int .i64 0,.bool false]) u):=by
 rcases strK.find u (keyS hx) es.toList (fun e he => by obtain ⟨k,v,b,rfl,hk⟩:=hes e he;exact ⟨_,keyS hk⟩) with ⟨g1,g0⟩ | ⟨j,e0,g1,g2,g3⟩
 ·refine .inr ⟨fun v b hm => g0 _ hm rfl,?_⟩
  have hz : (zeroValue 3).run Tryz.prog u = .ok (.int .i64 0) u:=by simp [go_sem]
  simp [Instr.lookup,run_underlying Tryz.underlying49,MapKept.run_getObj_map hu,strK.check u _ (keyS hx),g1,hz,Result.andThen]
 ·have hm:=List.mem_of_getElem? g2
  obtain ⟨k,v,b,rfl,hk⟩:=hes _ hm
  cases g3
  refine .inl ⟨v,b,hm,?_⟩
  simp [Instr.lookup,run_underlying Tryz.underlying49,MapKept.run_getObj_map hu,strK.check u _ (keyS hx),g1,Result.andThen]
/-- A range over two keys: which have come. -/
structure IterAt (w : World) (M r : Nat) (k0 : ByteArray) (v0 : Int) (k1 : ByteArray) (v1 : Int) (d0 d1 : Bool) : Prop where
 map : w.heap[M]? = some (.map #[ent k0 v0 0,ent k1 v1 1] 2)
 ne : M ≠ r
 iter : ∃ seen c0,w.heap[r]? = some (.mapIter (some M) 2 seen c0) ∧ 2 ≤ c0 ∧ seen.contains 0 = d0 ∧ seen.contains 1 = d1
theorem IterAt.kept {w w' : World} {M r : Nat} {k0 k1 : ByteArray} {v0 v1 : Int} {d0 d1 : Bool} (h : IterAt w M r k0 v0 k1 v1 d0 d1) (h1 : w'.heap[M]? = w.heap[M]?) (h2 : w'.heap[r]? = w.heap[r]?) : IterAt w' M r k0 v0 k1 v1 d0 d1 :=
 ⟨h1.trans h.map,h.ne,by obtain ⟨s,c,e,rest⟩:=h.iter;exact ⟨s,c,h2.trans e,rest⟩⟩
theorem IterAt.begin {w : World} {M : Nat} {k0 k1 : ByteArray} {v0 v1 : Int} (h : w.heap[M]? = some (.map #[ent k0 v0 0,ent k1 v1 1] 2)) :
  (Instr.range 49 (.map (some M))).run Tryz.prog w = .ok (.pointer (some ⟨w.heap.size,0,none⟩)) (w.alloc (.mapIter (some M) 2 #[] 2)) ∧ IterAt (w.alloc (.mapIter (some M) 2 #[] 2)) M w.heap.size k0 v0 k1 v1 false false:=by
 have hlt:=(Array.getElem?_eq_some_iff.1 h).1
 exact ⟨run_range_map w _ 9 3 M _ 2 Tryz.underlying49 h,(Below.heap_alloc w _ M hlt).trans h,by omega,#[],2,heap_alloc_new w _,Nat.le_refl _,by simp,by simp⟩
theorem IterAt.next {w : World} {M r : Nat} {k0 k1 : ByteArray} {v0 v1 : Int} {d0 d1 : Bool} (h : IterAt w M r k0 v0 k1 v1 d0 d1) (ty : TypeId) :
  (d0 = true ∧ d1 = true ∧ (Instr.next (.pointer (some ⟨r,0,none⟩)) false ty).run Tryz.prog w = .ok (.tuple #[.bool false]) w) ∨
  (d0 = false ∧ ∃ w',(Instr.next (.pointer (some ⟨r,0,none⟩)) false ty).run Tryz.prog w = .ok (.tuple #[.bool true,.string k0,.int .i64 v0]) w' ∧ IterAt w' M r k0 v0 k1 v1 true d1 ∧ (Instr.entry (.pointer (some ⟨r,0,none⟩))).run Tryz.prog w' = .ok (.tuple #[.string k0,.int .i64 v0]) w' ∧ Turned w w' (fun b => b = r)) ∨
  (d1 = false ∧ ∃ w',(Instr.next (.pointer (some ⟨r,0,none⟩)) false ty).run Tryz.prog w = .ok (.tuple #[.bool true,.string k1,.int .i64 v1]) w' ∧ IterAt w' M r k0 v0 k1 v1 d0 true ∧ (Instr.entry (.pointer (some ⟨r,0,none⟩))).run Tryz.prog w' = .ok (.tuple #[.string k1,.int .i64 v1]) w' ∧ Turned w w' (fun b => b = r)):=by
 obtain ⟨seen,c0,hr,hc,hd0,hd1⟩:=h.iter
 have hb:=h.map
 have hold : ∀ x ∈ (#[ent k0 v0 0,ent k1 v1 1] : Array MapEntry).toList,x.born < 2:=by
  intro x hx
  simp only [List.mem_cons,List.not_mem_nil,or_false] at hx
  rcases hx with rfl | rfl
  ·exact Nat.zero_lt_two
  ·exact Nat.one_lt_two
 rcases run_next_at (P:=Tryz.prog) w ty r M 2 c0 seen _ 2 hr hb hold hc with ⟨h0,hrun⟩ | ⟨e,he,w1,hal,hrun⟩
 ·have ha:=all_seen _ seen h0
  exact .inl ⟨hd0.symm.trans (ha (ent k0 v0 0) (by simp)),hd1.symm.trans (ha (ent k1 v1 1) (by simp)),hrun⟩
 ·obtain ⟨hem,hes⟩:=mem_left he
  have hr1 : w1.heap[r]? = some (.mapIter (some M) 2 seen c0):=by rcases hal with rfl | rfl <;> exact hr
  have hb1 : w1.heap[M]? = some (.map #[ent k0 v0 0,ent k1 v1 1] 2):=by rcases hal with rfl | rfl <;> exact hb
  have hset:=heap_set (o':=.mapIter (some M) 2 (seen.push e.born) 2) hr1
  have hb' : (setBlock w1 r (.mapIter (some M) 2 (seen.push e.born) 2)).heap[M]? = some (.map #[ent k0 v0 0,ent k1 v1 1] 2):=(hset.2 M h.ne).trans hb1
  have hr':=hset.1
  have ht : Turned w (setBlock w1 r (.mapIter (some M) 2 (seen.push e.born) 2)) (fun b => b = r):=by
   rcases hal with rfl | rfl <;> exact ⟨rfl,rfl,rfl,Nat.le_of_eq (Array.size_setIfInBounds ..).symm,fun i _ hi => hset.2 i hi⟩
  have hen:=run_entry_at (P:=Tryz.prog) _ r M 2 seen _ 2 e hr' hb' hem (show [(0 : Nat),1].Nodup by decide)
  simp only [List.mem_cons,List.not_mem_nil,or_false] at hem
  rcases hem with rfl | rfl
  ·refine .inr (.inl ⟨hd0.symm.trans hes,_,hrun,⟨hb',h.ne,_,2,hr',Nat.le_refl _,?_,?_⟩,hen,ht⟩)
   ·rw [contains_push];simp
   ·rw [contains_push,hd1];simp
  ·refine .inr (.inr ⟨hd1.symm.trans hes,_,hrun,⟨hb',h.ne,_,2,hr',Nat.le_refl _,?_,?_⟩,hen,ht⟩)
   ·rw [contains_push,hd0];simp
   ·rw [contains_push];simp
end Go.Proofs.YtbpldfmmlgkfnaaGreatDoor
