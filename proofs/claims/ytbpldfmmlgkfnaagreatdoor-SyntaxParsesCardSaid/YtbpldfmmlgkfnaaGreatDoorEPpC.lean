/- The program's parser: where it stands; what is thrown, seen, asked, taken, wanted, named, made. The program's parser: a word or sign that is wanted. The program's parser: a state that stands, gone through by one way; what is thrown goes out at once. Conditions: as each theorem says. -/
import Derived.Test.YtbpldfmmlgkfnaaGreatDoorERpS
import Derived.Test.YtbpldfmmlgkfnaaGreatDoorEPaSpec4
namespace Go.Proofs.YtbpldfmmlgkfnaaGreatDoor
open Go.RowKit
set_option linter.unusedVariables false

abbrev pT : TypeId:=91
abbrev wrongV (c : Int) (p : Nat) : Value:=.iface 88 (.agg #[.int .i64 c,.int .i64 (p : Nat)])
abbrev thrown (c : Int) (p : Nat) : Ending:=.panicked [{ v:=wrongV c p,recovered:=false }]
/-- The program's parser stands at s. -/
structure PAt (w : World) (E : Env) (s : PS) : Prop where
 le : s.i ≤ E.L.length
 lo : -(s.i : Int) ≤ s.dep
 hi : s.dep ≤ 20
 few : E.L.length ≤ 4000
 okt : ∀ t ∈ E.L,OkT t.kind t.text
 lies : ∃ A c,Toks w A (E.L.drop s.i) ∧ E.L.length - s.i ≤ c ∧ (s.i < E.L.length → ∀ a,A = some a → a.block < E.Q) ∧ Blk w E.Q pT #[.slice A (E.L.length - s.i) c,.int .i64 (E.e : Nat),.int .i64 s.dep,.int .i64 (wrap64 (s.many : Nat))]
theorem PAt.old {w : World} {E : Env} {s : PS} (h : PAt w E s) : E.Q < w.heap.size:=by
 obtain ⟨A,c,-,-,-,hb⟩:=h.lies
 exact hb.lt
theorem PAt.kept {w w' : World} {E : Env} {s : PS} (h : PAt w E s) (hz : w.heap.size ≤ w'.heap.size) (hk : ∀ k,k ≤ E.Q → w'.heap[k]? = w.heap[k]?) : PAt w' E s:=by
 obtain ⟨A,c,ht,hc,ha,hb⟩:=h.lies
 refine ⟨h.le,h.lo,h.hi,h.few,h.okt,A,c,fun hl => ?_,hc,ha,(hk _ (Nat.le_refl _)).trans hb⟩
 obtain ⟨b,o,e,hlt,hcs⟩:=ht hl
 have hbq : b < E.Q:=ha (by rw [List.length_drop] at hl;omega) _ e
 refine ⟨b,o,e,Nat.lt_of_lt_of_le hlt hz,fun i hi => ?_⟩
 obtain ⟨h1,h2,h3⟩:=hcs i hi
 have hkb:=hk b (Nat.le_of_lt hbq)
 exact ⟨(World.cell?_of_block (a:=⟨b,o + i * 3,none⟩) hkb).trans h1,(World.cell?_of_block (a:=⟨b,o + i * 3 + 1,none⟩) hkb).trans h2,(World.cell?_of_block (a:=⟨b,o + i * 3 + 2,none⟩) hkb).trans h3⟩
theorem PAt.below {w w' : World} {E : Env} {s : PS} (h : PAt w E s) (hb : Below w.heap.size w w') : PAt w' E s:=h.kept hb.size (fun k hk => hb.block k (Nat.lt_of_le_of_lt hk h.old))
theorem PAt.drewN {w : World} {E : Env} {s : PS} (h : PAt w E s) (k : Nat) : PAt (w.drewN k) E s:=h.below (belowN _ _ _)
theorem PAt.alloc {w : World} {E : Env} {s : PS} (h : PAt w E s) (o : Obj) : PAt (w.alloc o) E s:=h.below ((Below.refl _ _).alloc (Nat.le_refl _) o)
theorem PAt.far {w : World} {E : Env} {s : PS} {R i : Nat} (h : PAt w E s) (hR : E.Q < R) (v : Value) : PAt (w.setCell ⟨R,i,none⟩ v) E s :=
 h.kept (by simp [World.setCell]) (fun k hk => Below.heap_setCell _ ⟨R,i,none⟩ _ _ (by show k ≠ R;omega))
theorem PAt.grown {w w' : World} {E : Env} {s : PS} {row : Option Nat} (h : PAt w E s) (hg : w.grownBy w' row) (hr : ∀ k,row = some k → E.Q < k) : PAt w' E s :=
 h.kept hg.size (fun k hk => hg.block k (Nat.lt_of_le_of_lt hk h.old) (fun e => by have:=hr k e.symm;omega))
/-- A cell of the parser itself is turned: depth and many. -/
theorem PAt.turn {w : World} {E : Env} {s : PS} (h : PAt w E s) : ∃ A c,Blk w E.Q pT #[.slice A (E.L.length - s.i) c,.int .i64 (E.e : Nat),.int .i64 s.dep,.int .i64 (wrap64 (s.many : Nat))] ∧
  (∀ d : Int,-(s.i : Int) ≤ d → d ≤ 20 → PAt (w.setCell ⟨E.Q,2,none⟩ (.int .i64 d)) E ⟨s.i,d,s.many⟩) ∧
  PAt (w.setCell ⟨E.Q,3,none⟩ (.int .i64 (wrap64 ((s.many + 1 : Nat) : Int)))) E ⟨s.i,s.dep,s.many + 1⟩ ∧ ∀ (j : Nat) (v : Value),Toks (w.setCell ⟨E.Q,j,none⟩ v) A (E.L.drop s.i):=by
 obtain ⟨A,c,ht,hc,ha,hb⟩:=h.lies
 have hq : ∀ (j : Nat) (v : Value),Toks (w.setCell ⟨E.Q,j,none⟩ v) A (E.L.drop s.i):=fun j v hl => by
  obtain ⟨b,o,e,hlt,hcs⟩:=ht hl
  have hbq : b < E.Q:=ha (by rw [List.length_drop] at hl;omega) _ e
  have hkb : (w.setCell ⟨E.Q,j,none⟩ v).heap[b]? = w.heap[b]?:=Below.heap_setCell _ ⟨E.Q,j,none⟩ _ _ (by show b ≠ E.Q;omega)
  refine ⟨b,o,e,by simpa [World.setCell] using hlt,fun i hi => ?_⟩
  obtain ⟨h1,h2,h3⟩:=hcs i hi
  exact ⟨(World.cell?_of_block (a:=⟨b,o + i * 3,none⟩) hkb).trans h1,(World.cell?_of_block (a:=⟨b,o + i * 3 + 1,none⟩) hkb).trans h2,(World.cell?_of_block (a:=⟨b,o + i * 3 + 2,none⟩) hkb).trans h3⟩
 exact ⟨A,c,hb,fun d h1 h2 => ⟨h.le,h1,h2,h.few,h.okt,A,c,hq _ _,hc,ha,hb.set_ 2 (.int .i64 d)⟩,⟨h.le,h.lo,h.hi,h.few,h.okt,A,c,hq _ _,hc,ha,hb.set_ 3 (.int .i64 (wrap64 ((s.many + 1 : Nat) : Int)))⟩,hq⟩
/-- What is next, if anything is. -/
theorem PAt.head {w : World} {E : Env} {s : PS} (h : PAt w E s) (hlt : s.i < E.L.length) : ∃ b o c,Blk w E.Q pT #[.slice (some ⟨b,o,none⟩) (E.L.length - s.i) c,.int .i64 (E.e : Nat),.int .i64 s.dep,.int .i64 (wrap64 (s.many : Nat))] ∧ E.L.length - s.i ≤ c ∧ b < w.heap.size ∧ b < E.Q ∧
  w.cell? ⟨b,o,none⟩ = some (.int .i64 (E.L[s.i].kind)) ∧ w.cell? ⟨b,o + 1,none⟩ = some (.string (E.L[s.i].text)) ∧ w.cell? ⟨b,o + 2,none⟩ = some (.int .i64 (E.L[s.i].at_ : Nat)) ∧
  PAt (w.setCell ⟨E.Q,0,none⟩ (.slice (some ⟨b,o + 3,none⟩) (E.L.length - (s.i + 1)) (c - 1))) E (stepP s) ∧
  (c = 1 → PAt (w.setCell ⟨E.Q,0,none⟩ (.slice (some ⟨b,o,none⟩) (E.L.length - (s.i + 1)) 0)) E (stepP s)):=by
 obtain ⟨A,c,ht,hc,ha,hb⟩:=h.lies
 have hl : 0 < (E.L.drop s.i).length:=by rw [List.length_drop];omega
 obtain ⟨b,o,rfl,hlt2,hcs⟩:=ht hl
 have hbq : b < E.Q:=ha hlt _ rfl
 obtain ⟨h1,h2,h3⟩:=hcs 0 hl
 have e0 : (E.L.drop s.i)[0] = E.L[s.i]:=by simp
 rw [e0] at h1 h2 h3
 rw [Nat.zero_mul,Nat.add_zero] at h1 h2 h3
 refine ⟨b,o,c,hb,hc,hlt2,hbq,h1,h2,h3,⟨by show s.i + 1 ≤ _;omega,by show -(((s.i + 1 : Nat)) : Int) ≤ s.dep;have:=h.lo;omega,h.hi,h.few,h.okt,some ⟨b,o + 3,none⟩,c - 1,fun hl2 => ?_,by show E.L.length - (s.i + 1) ≤ c - 1;omega,fun _ a e => by cases e;exact hbq,hb.set_ 0 _⟩,fun h1c => ⟨by show s.i + 1 ≤ _;omega,by show -(((s.i + 1 : Nat)) : Int) ≤ s.dep;have:=h.lo;omega,h.hi,h.few,h.okt,some ⟨b,o,none⟩,0,fun hl2 => absurd hl2 (by rw [List.length_drop];show ¬ 0 < E.L.length - (s.i + 1);omega),by show E.L.length - (s.i + 1) ≤ 0;omega,fun _ a e => by cases e;exact hbq,hb.set_ 0 _⟩⟩
 have hkb : (w.setCell ⟨E.Q,0,none⟩ (.slice (some ⟨b,o + 3,none⟩) (E.L.length - (s.i + 1)) (c - 1))).heap[b]? = w.heap[b]?:=Below.heap_setCell _ ⟨E.Q,0,none⟩ _ _ (by show b ≠ E.Q;omega)
 refine ⟨b,o + 3,rfl,by simpa [World.setCell] using hlt2,fun i hi => ?_⟩
 have hi2 : i + 1 < (E.L.drop s.i).length:=by
  have hi3 : i < (E.L.drop (s.i + 1)).length:=hi
  rw [List.length_drop] at hi3 ⊢;omega
 obtain ⟨g1,g2,g3⟩:=hcs (i + 1) hi2
 have e1 : (E.L.drop (stepP s).i)[i] = (E.L.drop s.i)[i + 1]:=by
  simp only [stepP,List.getElem_drop]
  congr 1;omega
 have eo : o + 3 + i * 3 = o + (i + 1) * 3:=by omega
 rw [e1,eo]
 exact ⟨(World.cell?_of_block (a:=⟨b,o + (i + 1) * 3,none⟩) hkb).trans g1,(World.cell?_of_block (a:=⟨b,o + (i + 1) * 3 + 1,none⟩) hkb).trans g2,(World.cell?_of_block (a:=⟨b,o + (i + 1) * 3 + 2,none⟩) hkb).trans g3⟩
set_option maxRecDepth 100000 in
theorem pfail_raw {w : World} {E : Env} {A : Option Addr} {c : Nat} {v2 v3 : Value} (s : PS) (k : Int) (hfew : E.L.length ≤ 4000) (ht : Toks w A (E.L.drop s.i)) (hb : Blk w E.Q pT #[.slice A (E.L.length - s.i) c,.int .i64 (E.e : Nat),v2,v3]) : Calls Tryz.prog 65 #[.pointer (some ⟨E.Q,0,none⟩),.int .i64 k] w fun e w' => e = thrown k (posP E.L E.e s) ∧ Below w.heap.size w w':=by
 by_cases hlt : s.i < E.L.length
 ·have hl : 0 < (E.L.drop s.i).length:=by rw [List.length_drop];omega
  obtain ⟨b,o,rfl,hbl,hcs⟩:=ht hl
  obtain ⟨h1,h2,h3⟩:=hcs 0 hl
  have e0 : (E.L.drop s.i)[0] = E.L[s.i]:=by simp
  rw [e0] at h3
  rw [Nat.zero_mul,Nat.add_zero] at h3
  have hp : posP E.L E.e s = E.L[s.i].at_:=by unfold posP;rw [List.getElem?_eq_getElem hlt]
  obtain ⟨x0,x1,x2,x3,g0,g1,g2,g3,gl⟩:=hb.f4
  have hle : (0 : Int) < ((E.L.length - s.i : Nat) : Int):=by omega
  rw [hp]
  clear e0 hcs h1 h2
  generalize E.L[s.i] = t at *
  clear hb hp
  go_enter Tryz.func65,Tryz.ntmps65
  go_wp2_with fail
  exact ⟨rfl,rfl,Below.refl _ _⟩
 ·have hp : posP E.L E.e s = E.e:=by unfold posP;rw [List.getElem?_eq_none (by omega)]
  obtain ⟨x0,x1,x2,x3,g0,g1,g2,g3,gl⟩:=hb.f4
  have hle : decide ((0 : Int) < ((E.L.length - s.i : Nat) : Int)) = false:=by simp;omega
  rw [hp]
  clear hb hp ht
  go_enter Tryz.func65,Tryz.ntmps65
  go_wp2_with fail
  exact ⟨rfl,rfl,Below.refl _ _⟩
theorem pfail_any {w : World} {E : Env} {s : PS} (k : Int) (h : PAt w E s) : Calls Tryz.prog 65 #[.pointer (some ⟨E.Q,0,none⟩),.int .i64 k] w fun e w' => e = thrown k (posP E.L E.e s) ∧ Below w.heap.size w w':=by
 obtain ⟨A,c,ht,hc,ha,hb⟩:=h.lies
 exact pfail_raw s k h.few ht hb
set_option maxRecDepth 100000 in
theorem psees_any {w : World} {E : Env} {s : PS} (x : ByteArray) (h : PAt w E s) : Calls Tryz.prog 88 #[.pointer (some ⟨E.Q,0,none⟩),.string x] w fun e w' => e = .returned (.bool (seesP E.L x s)) ∧ Below w.heap.size w w':=by
 have hfew:=h.few
 by_cases hlt : s.i < E.L.length
 ·obtain ⟨b,o,c,hb,hc,hbl,hbq,h1,h2,h3,-,-⟩:=h.head hlt
  have hv : seesP E.L x s = (sameT E.L[s.i].text x && (E.L[s.i].kind == 3 || E.L[s.i].kind == 4)):=by
   unfold seesP;rw [List.getElem?_eq_getElem hlt]
  have HV:=Lib.hid hv
  obtain ⟨x0,x1,x2,x3,g0,g1,g2,g3,gl⟩:=hb.f4
  have hle : (0 : Int) < ((E.L.length - s.i : Nat) : Int):=by omega
  generalize seesP E.L x s = v at *
  generalize E.L[s.i] = t at *
  unfold sameT at HV
  have hcs : ((t.text.toList == x.toList) = false ∧ v = false) ∨ ((t.text.toList == x.toList) = true ∧ (t.kind == 3) = true ∧ v = true) ∨ ((t.text.toList == x.toList) = true ∧ (t.kind == 3) = false ∧ v = (t.kind == 4)):=by
   rw [HV.out]
   cases (t.text.toList == x.toList) <;> cases (t.kind == 3) <;> simp
  clear h hb hv HV
  go_enter Tryz.func88,Tryz.ntmps88
  rcases hcs with ⟨h1,rfl⟩ | ⟨h1,h2,rfl⟩ | ⟨h1,h2,rfl⟩
  all_goals
   go_wp2_with fail
   go_ret
   exact ⟨rfl,Below.refl _ _⟩
 ·obtain ⟨A,c,ht,hc,ha,hb⟩:=h.lies
  have hv : seesP E.L x s = false:=by
   unfold seesP;rw [List.getElem?_eq_none (by omega)]
  obtain ⟨x0,x1,x2,x3,g0,g1,g2,g3,gl⟩:=hb.f4
  have hle : decide ((0 : Int) < ((E.L.length - s.i : Nat) : Int)) = false:=by simp;omega
  rw [hv]
  clear h hb hv ht ha
  go_enter Tryz.func88,Tryz.ntmps88
  go_wp2_with fail
  go_ret
  exact ⟨rfl,Below.refl _ _⟩
set_option maxRecDepth 100000 in
theorem pis_any {w : World} {E : Env} {s : PS} (k : Int) (h : PAt w E s) : Calls Tryz.prog 106 #[.pointer (some ⟨E.Q,0,none⟩),.int .i64 k] w fun e w' => e = .returned (.bool (isP E.L k s)) ∧ Below w.heap.size w w':=by
 have hfew:=h.few
 by_cases hlt : s.i < E.L.length
 ·obtain ⟨b,o,c,hb,hc,hbl,hbq,h1,h2,h3,-,-⟩:=h.head hlt
  have hv : isP E.L k s = (E.L[s.i].kind == k):=by
   unfold isP;rw [List.getElem?_eq_getElem hlt]
  rw [hv]
  obtain ⟨x0,x1,x2,x3,g0,g1,g2,g3,gl⟩:=hb.f4
  have hle : (0 : Int) < ((E.L.length - s.i : Nat) : Int):=by omega
  generalize E.L[s.i] = t at *
  clear h hb hv
  go_enter Tryz.func106,Tryz.ntmps106
  go_wp2_with fail
  go_ret
  exact ⟨rfl,Below.refl _ _⟩
 ·obtain ⟨A,c,ht,hc,ha,hb⟩:=h.lies
  have hv : isP E.L k s = false:=by
   unfold isP;rw [List.getElem?_eq_none (by omega)]
  obtain ⟨x0,x1,x2,x3,g0,g1,g2,g3,gl⟩:=hb.f4
  have hle : decide ((0 : Int) < ((E.L.length - s.i : Nat) : Int)) = false:=by simp;omega
  rw [hv]
  clear h hb hv ht ha
  go_enter Tryz.func106,Tryz.ntmps106
  go_wp2_with fail
  go_ret
  exact ⟨rfl,Below.refl _ _⟩
set_option maxRecDepth 100000 in
set_option maxHeartbeats 1600000 in
theorem pnext_any {w : World} {E : Env} {s : PS} (h : PAt w E s) (hlt : s.i < E.L.length) : Calls Tryz.prog 89 #[.pointer (some ⟨E.Q,0,none⟩)] w fun e w' => e = .returned (.string (textP E.L s)) ∧ Turned w w' (fun b => b = E.Q) ∧ PAt w' E (stepP s):=by
 have hfew:=h.few
 have hold:=h.old
 have hv : textP E.L s = E.L[s.i].text:=by unfold textP;rw [List.getElem?_eq_getElem hlt]
 rw [hv]
 obtain ⟨b,o,c,hb,hc,hbl,hbq,h1,h2,h3,h4,h5⟩:=h.head hlt
 have H4:=Lib.hid h4
 have H5:=Lib.hid h5
 have HT : Hid (∀ (v : Value) (o : Obj),Turned w ((w.setCell ⟨E.Q,0,none⟩ v).alloc o) (fun b => b = E.Q)):=fun v o => ((Turned.refl w (fun b => b = E.Q)).setCell (p:=⟨E.Q,0,none⟩) (.inl rfl) v).alloc o
 obtain ⟨x0,x1,x2,x3,g0,g1,g2,g3,gl⟩:=hb.f4
 generalize E.L[s.i] = t at *
 go_enter Tryz.func89,Tryz.ntmps89
 clear hb hv h h4 h5
 have hle : (0 : Int) < ((E.L.length - s.i : Nat) : Int):=by omega
 have hle2 : 0 < E.L.length - s.i:=by omega
 have hle3 : 1 ≤ E.L.length - s.i:=by omega
 have hle4 : (1 : Int) ≤ ((E.L.length - s.i : Nat) : Int):=by omega
 have hs1 : E.L.length - s.i - 1 = E.L.length - (s.i + 1):=by omega
 by_cases hc1 : c = 1
 ·subst hc1
  go_wp2_with fail
  go_ret
  exact ⟨rfl,HT.out _ _,(H5.out trivial).alloc _⟩
 ·go_wp2_with fail
  go_ret
  exact ⟨rfl,HT.out _ _,H4.out.alloc _⟩
set_option maxRecDepth 100000 in
theorem ptakes_any {w : World} {E : Env} {s : PS} (x : ByteArray) (h : PAt w E s) : Calls Tryz.prog 61 #[.pointer (some ⟨E.Q,0,none⟩),.string x] w fun e w' => e = .returned (.bool (seesP E.L x s)) ∧ Turned w w' (fun b => b = E.Q) ∧ PAt w' E (if seesP E.L x s = true then stepP s else s):=by
 have HS:=Lib.hid (psees_any x h)
 have HG:=Lib.hid h
 clear h
 cases hv : seesP E.L x s with
 | true =>
  rw [hv] at HS
  have HLT:=Lib.hid (sees_lt hv)
  clear hv
  go_enter Tryz.func61,Tryz.ntmps61
  go_wp2_with fail
  refine HS.out.mono ?_
  rintro e w2 ⟨rfl,hb2⟩
  have HT:=Lib.hid (Turned.of_below (fun b => b = E.Q) hb2)
  have HG2:=Lib.hid (HG.out.below hb2)
  clear hb2 HG HS
  go_wp2_with fail
  refine (pnext_any HG2.out HLT.out).mono ?_
  rintro e w3 ⟨rfl,ht3,hg3⟩
  have HT3:=Lib.hid (HT.out.then ht3)
  have HG3:=Lib.hid hg3
  clear ht3 hg3
  go_wp2_with fail
  go_ret
  exact ⟨rfl,HT3.out,HG3.out⟩
 | false =>
  rw [hv] at HS
  clear hv
  go_enter Tryz.func61,Tryz.ntmps61
  go_wp2_with fail
  refine HS.out.mono ?_
  rintro e w2 ⟨rfl,hb2⟩
  have HT:=Lib.hid (Turned.of_below (fun b => b = E.Q) hb2)
  have HG2:=Lib.hid (HG.out.below hb2)
  clear hb2 HG HS
  go_wp2_with fail
  go_ret
  exact ⟨rfl,HT.out,HG2.out⟩
def DeepEnd (E : Env) (s : PS) (w : World) (e : Ending) (w' : World) : Prop:=(s.dep + 1 ≤ 20 ∧ e = .returned (.tuple #[]) ∧ Turned w w' (fun b => b = E.Q) ∧ PAt w' E ⟨s.i,s.dep + 1,s.many⟩) ∨ (20 < s.dep + 1 ∧ e = thrown 13 (posP E.L E.e s) ∧ Turned w w' (fun b => b = E.Q))
set_option maxRecDepth 100000 in
theorem pdeeper_any {w : World} {E : Env} {s : PS} (h : PAt w E s) : Calls Tryz.prog 93 #[.pointer (some ⟨E.Q,0,none⟩)] w (DeepEnd E s w):=by
 obtain ⟨A,c,hb,h1,-,hq⟩:=h.turn
 obtain ⟨x0,x1,x2,x3,g0,g1,g2,g3,gl⟩:=hb.f4
 have hlo:=h.lo
 have hle:=h.le
 have hfew:=h.few
 have hhi:=h.hi
 have hw : IntKind.i64.wrap (s.dep + 1) = s.dep + 1:=IntWalk.i64_in _ (by omega)
 have HT:=Lib.hid ((Turned.refl w (fun b => b = E.Q)).setCell (p:=⟨E.Q,2,none⟩) (.inl rfl) (.int .i64 (s.dep + 1)))
 by_cases hd : 20 < s.dep + 1
 ·have HF:=Lib.hid (pfail_raw (v2:=.int .i64 (s.dep + 1)) s 13 hfew (hq 2 (.int .i64 (s.dep + 1))) (hb.set_ 2 (.int .i64 (s.dep + 1))))
  clear h h1 hb hq
  go_enter Tryz.func93,Tryz.ntmps93
  go_wp2_with fail
  refine HF.out.mono ?_
  rintro e w2 ⟨rfl,hb2⟩
  exact ⟨rfl,.inr ⟨hd,rfl,HT.out.then (Turned.of_below _ hb2)⟩⟩
 ·have HG:=Lib.hid (h1 (s.dep + 1) (by omega) (by omega))
  have hd2 : decide ((20 : Int) < s.dep + 1) = false:=by simpa using hd
  clear h h1 hb hq
  go_enter Tryz.func93,Tryz.ntmps93
  go_wp2_with fail
  go_returns
  exact .inl ⟨by omega,rfl,HT.out,HG.out⟩
def WantEnd (E : Env) (r : Res) (w : World) (e : Ending) (w' : World) : Prop:=Turned w w' (fun b => b = E.Q) ∧ ((∃ n s,r = .ok n s ∧ e = .returned (.tuple #[]) ∧ PAt w' E s) ∨ (∃ c p,r = .no c p ∧ c ≠ 0 ∧ e = thrown c p))
def NameEnd (E : Env) (r : Res) (w : World) (e : Ending) (w' : World) : Prop:=Turned w w' (fun b => b = E.Q) ∧ ((∃ n s,r = .ok n s ∧ e = .returned (.string n.text) ∧ PAt w' E s) ∨ (∃ c p,r = .no c p ∧ c ≠ 0 ∧ e = thrown c p))
set_option maxRecDepth 100000 in
theorem pname_any {w : World} {E : Env} {s : PS} (h : PAt w E s) : Calls Tryz.prog 90 #[.pointer (some ⟨E.Q,0,none⟩)] w (NameEnd E (nameP E.L E.e s) w):=by
 have HS:=Lib.hid (pis_any 1 h)
 have HG:=Lib.hid h
 clear h
 unfold nameP
 cases hv : isP E.L 1 s with
 | true =>
  rw [hv] at HS
  have HLT:=Lib.hid (is_lt hv)
  clear hv
  rw [if_pos rfl]
  go_enter Tryz.func90,Tryz.ntmps90
  go_wp2_with fail
  refine HS.out.mono ?_
  rintro e w2 ⟨rfl,hb2⟩
  have HT:=Lib.hid (Turned.of_below (fun b => b = E.Q) hb2)
  have HG2:=Lib.hid (HG.out.below hb2)
  clear hb2 HG HS
  go_wp2_with fail
  refine (pnext_any HG2.out HLT.out).mono ?_
  rintro e w3 ⟨rfl,ht3,hg3⟩
  have HT3:=Lib.hid (HT.out.then ht3)
  have HG3:=Lib.hid hg3
  clear ht3 hg3
  go_wp2_with fail
  go_ret
  exact ⟨HT3.out,.inl ⟨_,_,rfl,rfl,HG3.out⟩⟩
 | false =>
  rw [hv] at HS
  clear hv
  rw [if_neg (by decide)]
  go_enter Tryz.func90,Tryz.ntmps90
  go_wp2_with fail
  refine HS.out.mono ?_
  rintro e w2 ⟨rfl,hb2⟩
  have HT:=Lib.hid (Turned.of_below (fun b => b = E.Q) hb2)
  have HG2:=Lib.hid (HG.out.below hb2)
  clear hb2 HG HS
  go_wp2_with fail
  refine (pfail_any 12 HG2.out).mono ?_
  rintro e w3 ⟨rfl,hb3⟩
  exact ⟨rfl,HT.out.then (Turned.of_below _ hb3),.inr ⟨12,_,rfl,by decide,rfl⟩⟩
set_option maxRecDepth 100000 in
theorem pnode_any {w : World} {E : Env} {s : PS} (k : Int) (t : ByteArray) (a : Option Addr) (len cap : Nat) (h : PAt w E s) : Calls Tryz.prog 66 #[.pointer (some ⟨E.Q,0,none⟩),.int .i64 k,.string t,.slice a len cap] w fun e w' => e = .returned (.agg #[.int .i64 k,.string t,.int .i64 0,.slice a len cap]) ∧ Turned w w' (fun b => b = E.Q) ∧ PAt w' E ⟨s.i,s.dep,s.many + 1⟩:=by
 obtain ⟨A,c,hb,-,h1,hq⟩:=h.turn
 have hold:=h.old
 have hne : w.heap.size ≠ E.Q:=by omega
 have hw : IntKind.i64.wrap (wrap64 (s.many : Int) + 1) = wrap64 ((s.many : Int) + 1):=by rw [IntKind.wrap_i64];simp only [wrap64];omega
 have hc : ((s.many + 1 : Nat) : Int) = (s.many : Int) + 1:=by omega
 rw [hc] at h1
 obtain ⟨x0,x1,x2,x3,g0,g1,g2,g3,gl⟩:=hb.f4
 have HT:=Lib.hid (((Turned.refl w (fun b => b = E.Q)).setCell (p:=⟨E.Q,3,none⟩) (.inl rfl) (.int .i64 (wrap64 ((s.many : Int) + 1)))).alloc (.cells #[.int .i64 k,.string t,.int .i64 0,.slice a len cap] 24))
 have HG:=Lib.hid (h1.alloc (.cells #[.int .i64 k,.string t,.int .i64 0,.slice a len cap] 24))
 clear h hb h1 hq hc
 go_enter Tryz.func66,Tryz.ntmps66
 go_wp2_with fail
 go_returns
 exact ⟨rfl,HT.out,HG.out⟩
end Go.Proofs.YtbpldfmmlgkfnaaGreatDoor

namespace Go.Proofs.YtbpldfmmlgkfnaaGreatDoor
open Go.RowKit
set_option linter.unusedVariables false

set_option maxRecDepth 100000 in
set_option maxHeartbeats 3200000 in
theorem pwant_any {w : World} {E : Env} {s : PS} (g : Nat) (x : ByteArray) (h : PAt w E s) (hx : w.cell? ⟨g,0,none⟩ = some (.string x)) (hg : g ≠ E.Q) (hgl : g < w.heap.size) : Calls Tryz.prog 63 #[.pointer (some ⟨E.Q,0,none⟩),.slice (some ⟨g,0,none⟩) 1 1] w (WantEnd E (wantP E.L E.e x s) w):=by
 have HG:=Lib.hid h
 have HXC:=Lib.hid hx
 clear h hx
 go_enter Tryz.func63,Tryz.ntmps63
 go_wp2_with fail
 go_loopw [8] (fun v wr => (v = .int .i64 0 ∧ wr = w) ∨ (v = .int .i64 1 ∧ Turned w wr (fun b => b = E.Q) ∧ ∃ n s',wantP E.L E.e x s = .ok n s' ∧ PAt wr E s')) (fun v _ => 1 - (intOf v).toNat)
 case atStart => exact .inl ⟨rfl,rfl⟩
 case round =>
  rcases hrel with ⟨rfl,rfl⟩ | ⟨rfl,ht,n,s',hr,hs⟩
  rotate_left
  ·have HT:=Lib.hid ht
   have HS:=Lib.hid hs
   have HR:=Lib.hid hr
   clear ht hs hr
   go_wp2_with fail
   go_returns
   exact ⟨HT.out,.inl ⟨n,s',HR.out,rfl,HS.out⟩⟩
  ·have x0:=HXC.out
   cases hs : seesP E.L x s with
   | false =>
    have HS:=Lib.hid (psees_any x HG.out)
    rw [hs] at HS
    have HR : Hid (wantP E.L E.e x s = .no 12 (posP E.L E.e s)):=by
     show _ = _
     unfold wantP
     rw [if_neg (by rw [hs];decide)];rfl
    clear hs
    go_wp2_with fail
    refine HS.out.mono ?_
    rintro e w2 ⟨rfl,hb2⟩
    have HT:=Lib.hid (Turned.of_below (fun b => b = E.Q) hb2)
    have HG2:=Lib.hid (HG.out.below hb2)
    clear hb2
    go_wp2_with fail
    refine (pfail_any 12 HG2.out).mono ?_
    rintro e w3 ⟨rfl,hb3⟩
    exact ⟨rfl,HT.out.then (Turned.of_below _ hb3),.inr ⟨12,_,HR.out,by decide,rfl⟩⟩
   | true =>
    have hlt : s.i < E.L.length:=sees_lt hs
    have HS:=Lib.hid (psees_any x HG.out)
    rw [hs] at HS
    have hfew:=HG.out.few
    have hle:=HG.out.lo
    have hhi:=HG.out.hi
    have HR : Hid (wantP E.L E.e x s = if x = ⟨#[40]⟩ ∨ x = ⟨#[123]⟩ then (if 20 < s.dep + 1 then failP E.L E.e 13 s else .ok nd0 ⟨s.i + 1,s.dep + 1,s.many⟩) else if x = ⟨#[41]⟩ ∨ x = ⟨#[125]⟩ then .ok nd0 ⟨s.i + 1,s.dep - 1,s.many⟩ else .ok nd0 (stepP s)):=by
     show _ = _
     unfold wantP
     rw [if_pos hs,tx_lp,tx_rp,tx_lb,tx_rb]
    clear hs
    have hw2 : IntKind.i64.wrap (s.dep - 1) = s.dep - 1:=wrap_dep (by omega) (by omega)
    by_cases ho : x = ⟨#[40]⟩ ∨ x = ⟨#[123]⟩
    ·have HR2:=Lib.hid (HR.out.trans (if_pos ho))
     have HLT:=Lib.hid hlt
     clear HR hw2
     by_cases hd : 20 < s.dep + 1
     ·have HR3:=Lib.hid (HR2.out.trans (if_pos hd))
      rcases ho with rfl | rfl
      all_goals
       go_wp2_with fail
       refine HS.out.mono ?_
       rintro e w2 ⟨rfl,hb2⟩
       have HT:=Lib.hid (Turned.of_below (fun b => b = E.Q) hb2)
       have HG2:=Lib.hid (HG.out.below hb2)
       clear hb2
       go_wp2_with fail
       refine (pdeeper_any HG2.out).mono ?_
       rintro e w3 hq3
       rcases hq3 with ⟨h1,-⟩ | ⟨-,rfl,ht3⟩
       ·omega
       ·exact ⟨rfl,HT.out.then ht3,.inr ⟨13,_,HR3.out,by decide,rfl⟩⟩
     ·have HR3:=Lib.hid (HR2.out.trans (if_neg hd))
      rcases ho with rfl | rfl
      all_goals
       go_wp2_with fail
       refine HS.out.mono ?_
       rintro e w2 ⟨rfl,hb2⟩
       have HT:=Lib.hid (Turned.of_below (fun b => b = E.Q) hb2)
       have HG2:=Lib.hid (HG.out.below hb2)
       clear hb2
       go_wp2_with fail
       refine (pdeeper_any HG2.out).mono ?_
       rintro e w3 hq3
       rcases hq3 with ⟨-,rfl,ht3,hg3⟩ | ⟨h1,-⟩
       rotate_left
       ·exact absurd h1 (by omega)
       have HT3:=Lib.hid (HT.out.then ht3)
       have HG3:=Lib.hid hg3
       clear ht3 hg3
       go_wp2_with fail
       refine (pnext_any HG3.out HLT.out).mono ?_
       rintro e w4 ⟨rfl,ht4,hg4⟩
       have HT4:=Lib.hid (HT3.out.then ht4)
       have HG4:=Lib.hid hg4
       clear ht4 hg4
       go_wp2_with fail
       go_roundw
       case rel => exact .inr ⟨rfl,HT4.out,_,_,HR3.out,HG4.out⟩
       case measure => simp [intOf]
    ·have HR2:=Lib.hid (HR.out.trans (if_neg ho))
     have HLT:=Lib.hid hlt
     clear HR
     have c1 : (x.toList == [40]) = false:=beq_one (fun e => ho (.inl e))
     have c2 : (x.toList == [123]) = false:=beq_one (fun e => ho (.inr e))
     by_cases hcl : x = ⟨#[41]⟩ ∨ x = ⟨#[125]⟩
     ·have HR3:=Lib.hid (HR2.out.trans (if_pos hcl))
      clear c1 c2 ho
      rcases hcl with rfl | rfl
      all_goals
       go_wp2_with fail
       refine HS.out.mono ?_
       rintro e w2 ⟨rfl,hb2⟩
       have HT:=Lib.hid (Turned.of_below (fun b => b = E.Q) hb2)
       have HG2:=Lib.hid (HG.out.below hb2)
       clear hb2
       go_wp2_with fail
       refine (pnext_any HG2.out HLT.out).mono ?_
       rintro e w4 ⟨rfl,ht4,hg4⟩
       have HT4:=Lib.hid (HT.out.then ht4)
       have HG4:=Lib.hid hg4
       clear ht4 hg4
       have hw3 : IntKind.i64.wrap ((stepP s).dep - 1) = s.dep - 1:=hw2
       obtain ⟨A,c,hb,hup,-,-⟩:=HG4.out.turn
       obtain ⟨z0,z1,z2,z3,g0,g1,g2,g3,gl⟩:=hb.f4
       have hup2:=hup (s.dep - 1) (by show -((s.i + 1 : Nat) : Int) ≤ s.dep - 1;omega) (by omega)
       have HUP:=Lib.hid hup2
       clear hb hup hup2
       go_wp2_with fail
       go_roundw
       case rel => exact .inr ⟨rfl,HT4.out.setCell (p:=⟨E.Q,2,none⟩) (.inl rfl) _,_,_,HR3.out,HUP.out⟩
       case measure => simp [intOf]
     ·have HR3:=Lib.hid (HR2.out.trans (if_neg hcl))
      have c3 : (x.toList == [41]) = false:=beq_one (fun e => hcl (.inl e))
      have c4 : (x.toList == [125]) = false:=beq_one (fun e => hcl (.inr e))
      clear ho hcl
      go_wp2_with fail
      refine HS.out.mono ?_
      rintro e w2 ⟨rfl,hb2⟩
      have HT:=Lib.hid (Turned.of_below (fun b => b = E.Q) hb2)
      have HG2:=Lib.hid (HG.out.below hb2)
      clear hb2
      go_wp2_with fail
      refine (pnext_any HG2.out HLT.out).mono ?_
      rintro e w4 ⟨rfl,ht4,hg4⟩
      have HT4:=Lib.hid (HT.out.then ht4)
      have HG4:=Lib.hid hg4
      clear ht4 hg4
      go_wp2_with fail
      go_roundw
      case rel => exact .inr ⟨rfl,HT4.out,_,_,HR3.out,HG4.out⟩
      case measure => simp [intOf]
end Go.Proofs.YtbpldfmmlgkfnaaGreatDoor

namespace Go.Proofs.YtbpldfmmlgkfnaaGreatDoor
open Go.RowKit
set_option linter.unusedVariables false

/-- The parser stands; what is still to come is K of the names t, u and the nodes ls that lie in the row xs. -/
def PT (E : Env) (rr : Res) (w : World) (K : Nd → Nd → List Nd → PS → Res) (tv uv : ByteArray) (xs : List NV) (S : Nat → Prop) (lo : Nat) : Prop :=
 ∃ t u ls s,rr = K t u ls s ∧ PAt w E s ∧ tv = t.text ∧ uv = u.text ∧ AllN w S xs ls ∧ lo ≤ s.i
/-- The same, and a node x beside. -/
def PT1 (E : Env) (rr : Res) (w : World) (K : Nd → Nd → List Nd → Nd → PS → Res) (tv uv : ByteArray) (xs : List NV) (x : NV) (S : Nat → Prop) (lo : Nat) : Prop :=
 ∃ t u ls n s,rr = K t u ls n s ∧ PAt w E s ∧ tv = t.text ∧ uv = u.text ∧ AllN w S xs ls ∧ IsN w S x n ∧ lo ≤ s.i
/-- Two ways: it hands back what Q says, or what the plain parser gives up with is thrown. -/
def Way (E : Env) (rr : Res) (w : World) (Q : Value → World → Prop) (e : Ending) (w' : World) : Prop:=Turned w w' (fun b => b = E.Q) ∧ ((∃ v,e = .returned v ∧ Q v w') ∨ (∃ c p,rr = .no c p ∧ c ≠ 0 ∧ e = thrown c p))
/-- What a command leaves. -/
def PEnd (E : Env) (rr : Res) (w : World) : Ending → World → Prop:=Way E rr w (fun v w' => ∃ n s x,rr = .ok n s ∧ v = nvA x ∧ PAt w' E s ∧ IsN w' (fun b => w.heap.size ≤ b) x n)
def PCall (f : Nat) (c : Cmd) (fn : FuncId) : Prop:=∀ (E : Env) (s : PS) (w : World),PAt w E s → run E.L E.e f c s ≠ .out → Calls Tryz.prog fn #[.pointer (some ⟨E.Q,0,none⟩)] w (PEnd E (run E.L E.e f c s) w)
section
variable {E : Env} {rr : Res} {w w' : World} {tv uv : ByteArray} {xs : List NV} {S S' : Nat → Prop} {lo : Nat} {x : NV}
theorem PT.at {K : Nd → Nd → List Nd → PS → Res} (h : PT E rr w K tv uv xs S lo) : ∃ s,PAt w E s ∧ lo ≤ s.i:=by
 obtain ⟨t,u,ls,s,h1,h2,h3,h4,h5,hl⟩:=h
 exact ⟨s,h2,hl⟩
theorem PT.le {K : Nd → Nd → List Nd → PS → Res} (h : PT E rr w K tv uv xs S lo) : lo ≤ E.L.length:=by
 obtain ⟨t,u,ls,s,h1,h2,h3,h4,h5,hl⟩:=h
 exact Nat.le_trans hl h2.le
theorem PT.keep {K : Nd → Nd → List Nd → PS → Res} (h : PT E rr w K tv uv xs S lo) (hr : ∀ s,PAt w E s → PAt w' E s) (hz : w.heap.size ≤ w'.heap.size) (hb : ∀ b,b < w.heap.size → S b → w'.heap[b]? = w.heap[b]?) (hS : ∀ b,b < w.heap.size → S b → S' b) : PT E rr w' K tv uv xs S' lo:=by
 obtain ⟨t,u,ls,s,h1,h2,h3,h4,h5,hl⟩:=h
 exact ⟨t,u,ls,s,h1,hr s h2,h3,h4,h5.kept hz hb hS,hl⟩
theorem PT.below {K : Nd → Nd → List Nd → PS → Res} (h : PT E rr w K tv uv xs S lo) (hb : Below w.heap.size w w') : PT E rr w' K tv uv xs S lo:=h.keep (fun s hs => hs.below hb) hb.size (fun b hlt _ => hb.block b hlt) (fun b _ h => h)
theorem PT.alloc {K : Nd → Nd → List Nd → PS → Res} (h : PT E rr w K tv uv xs S lo) (o : Obj) : PT E rr (w.alloc o) K tv uv xs S lo:=h.below ((Below.refl _ _).alloc (Nat.le_refl _) o)
theorem PT.weak {K : Nd → Nd → List Nd → PS → Res} (h : PT E rr w K tv uv xs S lo) (hS : ∀ b,b < w.heap.size → S b → S' b) : PT E rr w K tv uv xs S' lo:=h.keep (fun s hs => hs) (Nat.le_refl _) (fun _ _ _ => rfl) hS
theorem PT.low {K : Nd → Nd → List Nd → PS → Res} {lo2 : Nat} (h : PT E rr w K tv uv xs S lo) (hl2 : lo2 ≤ lo) : PT E rr w K tv uv xs S lo2:=by
 obtain ⟨t,u,ls,s,h1,h2,h3,h4,h5,hl⟩:=h
 exact ⟨t,u,ls,s,h1,h2,h3,h4,h5,Nat.le_trans hl2 hl⟩
theorem PT1.keep {K : Nd → Nd → List Nd → Nd → PS → Res} (h : PT1 E rr w K tv uv xs x S lo) (hr : ∀ s,PAt w E s → PAt w' E s) (hz : w.heap.size ≤ w'.heap.size) (hb : ∀ b,b < w.heap.size → S b → w'.heap[b]? = w.heap[b]?) (hS : ∀ b,b < w.heap.size → S b → S' b) : PT1 E rr w' K tv uv xs x S' lo:=by
 obtain ⟨t,u,ls,n,s,h1,h2,h3,h4,h5,h6,hl⟩:=h
 exact ⟨t,u,ls,n,s,h1,hr s h2,h3,h4,h5.kept hz hb hS,h6.kept hz hb hS,hl⟩
theorem PT1.below {K : Nd → Nd → List Nd → Nd → PS → Res} (h : PT1 E rr w K tv uv xs x S lo) (hb : Below w.heap.size w w') : PT1 E rr w' K tv uv xs x S lo:=h.keep (fun s hs => hs.below hb) hb.size (fun b hlt _ => hb.block b hlt) (fun b _ h => h)
theorem PT1.alloc {K : Nd → Nd → List Nd → Nd → PS → Res} (h : PT1 E rr w K tv uv xs x S lo) (o : Obj) : PT1 E rr (w.alloc o) K tv uv xs x S lo:=h.below ((Below.refl _ _).alloc (Nat.le_refl _) o)
theorem PT1.weak {K : Nd → Nd → List Nd → Nd → PS → Res} (h : PT1 E rr w K tv uv xs x S lo) (hS : ∀ b,b < w.heap.size → S b → S' b) : PT1 E rr w K tv uv xs x S' lo:=h.keep (fun s hs => hs) (Nat.le_refl _) (fun _ _ _ => rfl) hS
theorem PT.congrL {K K' : Nd → Nd → List Nd → PS → Res} (h : PT E rr w K tv uv xs S lo) (hk : ∀ t u ls s,xs.length = ls.length → K t u ls s = K' t u ls s) : PT E rr w K' tv uv xs S lo:=by
 obtain ⟨t,u,ls,s,h1,h2,h3,h4,h5,hl⟩:=h
 exact ⟨t,u,ls,s,h1.trans (hk t u ls s h5.1),h2,h3,h4,h5,hl⟩
theorem PT1.congrL {K K' : Nd → Nd → List Nd → Nd → PS → Res} (h : PT1 E rr w K tv uv xs x S lo) (hk : ∀ t u ls n s,xs.length = ls.length → K t u ls n s = K' t u ls n s) : PT1 E rr w K' tv uv xs x S lo:=by
 obtain ⟨t,u,ls,n,s,h1,h2,h3,h4,h5,h6,hl⟩:=h
 exact ⟨t,u,ls,n,s,h1.trans (hk t u ls n s h5.1),h2,h3,h4,h5,h6,hl⟩
/-- A node alone is a row of one. -/
theorem PT1.first {K : Nd → Nd → List Nd → PS → Res} (h : PT1 E rr w (fun t u _ n s => K t u [n] s) tv uv [] x S lo) : PT E rr w K tv uv [x] S lo:=by
 obtain ⟨t,u,ls,n,s,h1,h2,h3,h4,h5,h6,hl⟩:=h
 exact ⟨t,u,[n],s,h1,h2,h3,h4,AllN.one h6,hl⟩
/-- Two nodes, one beside. -/
theorem PT1.two {K : Nd → Nd → List Nd → PS → Res} {y : NV} (h : PT1 E rr w (fun t u ls n s => K t u (ls ++ [n]) s) tv uv [y] x S lo) : PT E rr w K tv uv [y,x] S lo:=by
 obtain ⟨t,u,ls,n,s,h1,h2,h3,h4,h5,h6,hl⟩:=h
 exact ⟨t,u,ls ++ [n],s,h1,h2,h3,h4,h5.snoc h6,hl⟩
/-- What was made of the row is a node. -/
theorem PT.made {K : Nd → Nd → List Nd → Nd → PS → Res} {base : Nat} {A : Option Addr} {n c : Nat} {kd : Int} {tx : ByteArray} {nm : Int} (T : Nd → Nd → ByteArray) (hT : ∀ t u : Nd,tv = t.text → uv = u.text → T t u = tx) (ho : OwnN w base (.slice A n c) xs) (hS : ∀ b,S b → S' b) (hv : ∀ k,(Value.slice A n c).ownBlock = some k → S' k) (h : PT E rr w (fun t u ls s => K t u [] (.mk kd (T t u) nm ls) s) tv uv xs S lo) : PT1 E rr w K tv uv [] ⟨kd,tx,nm,A,n,c⟩ S' lo:=by
 obtain ⟨t,u,ls,s,h1,h2,h3,h4,h5,hl⟩:=h
 obtain ⟨A9,c9,e9,-,hn9⟩:=ho.nodes (S':=S') h5 hS hv
 cases e9
 exact ⟨t,u,[],_,s,h1,h2,h3,h4,AllN.nil _ _,⟨⟨rfl,(hT t u h3 h4).symm,rfl,rfl⟩,hn9⟩,hl⟩
/-- A leaf that was made is a node beside. -/
theorem PT.leaf {K : Nd → Nd → List Nd → Nd → PS → Res} {kd : Int} {tx : ByteArray} {nm : Int} (T : Nd → Nd → ByteArray) (hT : ∀ t u : Nd,tv = t.text → uv = u.text → T t u = tx) (c : Nat) (h : PT E rr w (fun t u ls s => K t u ls (.mk kd (T t u) nm []) s) tv uv xs S lo) : PT1 E rr w K tv uv xs ⟨kd,tx,nm,none,0,c⟩ S lo:=by
 obtain ⟨t,u,ls,s,h1,h2,h3,h4,h5,hl⟩:=h
 exact ⟨t,u,ls,_,s,h1,h2,h3,h4,h5,⟨⟨rfl,(hT t u h3 h4).symm,rfl,rfl⟩,.nil _⟩,hl⟩
/-- What was made is put behind the row. -/
theorem PT1.push {w0 : World} {K : Nd → Nd → List Nd → PS → Res} {v v' : Value} (h : PT1 E rr w (fun t u ls n s => K t u (ls ++ [n]) s) tv uv xs x (SR w0 v) lo) (hQ : E.Q < w0.heap.size) (ho : OwnN w (w0.heap.size + 1) v xs) (hg : w.grownBy w' v.ownBlock)
  (hp : ∀ k,v'.ownBlock = some k → v.ownBlock = some k ∨ k = w.heap.size) : PT E rr w' K tv uv (xs ++ [x]) (SR w0 v') lo:=by
 obtain ⟨t,u,ls,n,s,h1,h2,h3,h4,h5,h6,hl⟩:=h
 exact ⟨t,u,_,s,h1,h2.grown hg (fun k e => by have h1:=row_ge ho k e;omega),h3,h4,h5.pushed h6 ho hg hp,hl⟩
theorem PT.nil {K K' : Nd → Nd → List Nd → PS → Res} (h : PT E rr w K tv uv [] S lo) (hk : ∀ t u s,K t u [] s = K' t u [] s) : PT E rr w K' tv uv [] S lo:=h.congrL (fun t u ls s hl => by
 obtain rfl : ls = []:=List.eq_nil_of_length_eq_zero hl.symm
 exact hk t u s)
variable (hS : ∀ b,S b → ¬ b = E.Q)
include hS
theorem pt_want {K : Nd → Nd → List Nd → PS → Res} {g : Nat} (y : ByteArray) (hx : w.cell? ⟨g,0,none⟩ = some (.string y)) (hg : g ≠ E.Q) (hgl : g < w.heap.size) (h : PT E rr w (fun t u ls s => (wantP E.L E.e y s).bind fun _ s => K t u ls s) tv uv xs S lo) :
  Calls Tryz.prog 63 #[.pointer (some ⟨E.Q,0,none⟩),.slice (some ⟨g,0,none⟩) 1 1] w (Way E rr w fun v w' => v = .tuple #[] ∧ PT E rr w' K tv uv xs S (lo + 1)):=by
 obtain ⟨t,u,ls,s,h1,h2,h3,h4,h5,hl⟩:=h
 refine (pwant_any g y h2 hx hg hgl).mono ?_
 rintro e w' ⟨ht,⟨n,s',hr,rfl,hs⟩ | ⟨c,p,hr,hc,rfl⟩⟩
 ·exact ⟨ht,.inl ⟨_,rfl,rfl,t,u,ls,s',h1.trans (bind_ok hr),hs,h3,h4,h5.turned ht hS,Nat.le_trans (Nat.succ_le_succ hl) (mo_want _ _ hr)⟩⟩
 ·exact ⟨ht,.inr ⟨c,p,h1.trans (bind_no hr),hc,rfl⟩⟩
theorem pt_name1 {K : Nd → Nd → List Nd → PS → Res} (h : PT E rr w (fun _ u ls s => (nameP E.L E.e s).bind fun t s => K t u ls s) tv uv xs S lo) :
  Calls Tryz.prog 90 #[.pointer (some ⟨E.Q,0,none⟩)] w (Way E rr w fun v w' => ∃ t,v = .string t ∧ PT E rr w' K t uv xs S (lo + 1)):=by
 obtain ⟨t,u,ls,s,h1,h2,h3,h4,h5,hl⟩:=h
 refine (pname_any h2).mono ?_
 rintro e w' ⟨ht,⟨n,s',hr,rfl,hs⟩ | ⟨c,p,hr,hc,rfl⟩⟩
 ·exact ⟨ht,.inl ⟨_,rfl,n.text,rfl,n,u,ls,s',h1.trans (bind_ok hr),hs,rfl,h4,h5.turned ht hS,Nat.le_trans (Nat.succ_le_succ hl) (mo_name _ _ hr)⟩⟩
 ·exact ⟨ht,.inr ⟨c,p,h1.trans (bind_no hr),hc,rfl⟩⟩
theorem pt_name2 {K : Nd → Nd → List Nd → PS → Res} (h : PT E rr w (fun t _ ls s => (nameP E.L E.e s).bind fun u s => K t u ls s) tv uv xs S lo) :
  Calls Tryz.prog 90 #[.pointer (some ⟨E.Q,0,none⟩)] w (Way E rr w fun v w' => ∃ u,v = .string u ∧ PT E rr w' K tv u xs S (lo + 1)):=by
 obtain ⟨t,u,ls,s,h1,h2,h3,h4,h5,hl⟩:=h
 refine (pname_any h2).mono ?_
 rintro e w' ⟨ht,⟨n,s',hr,rfl,hs⟩ | ⟨c,p,hr,hc,rfl⟩⟩
 ·exact ⟨ht,.inl ⟨_,rfl,n.text,rfl,t,n,ls,s',h1.trans (bind_ok hr),hs,h3,rfl,h5.turned ht hS,Nat.le_trans (Nat.succ_le_succ hl) (mo_name _ _ hr)⟩⟩
 ·exact ⟨ht,.inr ⟨c,p,h1.trans (bind_no hr),hc,rfl⟩⟩
theorem pt_node {K : Nd → Nd → List Nd → PS → Res} (k : Int) (t : ByteArray) (a : Option Addr) (len cap : Nat) (h : PT E rr w (fun t u ls s => K t u ls ⟨s.i,s.dep,s.many + 1⟩) tv uv xs S lo) :
  Calls Tryz.prog 66 #[.pointer (some ⟨E.Q,0,none⟩),.int .i64 k,.string t,.slice a len cap] w fun e w' => e = .returned (.agg #[.int .i64 k,.string t,.int .i64 0,.slice a len cap]) ∧ Turned w w' (fun b => b = E.Q) ∧ PT E rr w' K tv uv xs S lo:=by
 obtain ⟨t1,u,ls,s,h1,h2,h3,h4,h5,hl⟩:=h
 exact (pnode_any k t a len cap h2).mono fun e w' ⟨he,ht,hs⟩ => ⟨he,ht,t1,u,ls,_,h1,hs,h3,h4,h5.turned ht hS,hl⟩
theorem pt_sees {A B : Nd → Nd → List Nd → PS → Res} (y : ByteArray) (h : PT E rr w (fun t u ls s => if seesP E.L y s = true then A t u ls s else B t u ls s) tv uv xs S lo) :
  Calls Tryz.prog 88 #[.pointer (some ⟨E.Q,0,none⟩),.string y] w fun e w' => ∃ b,e = .returned (.bool b) ∧ Turned w w' (fun b => b = E.Q) ∧ (b = true → PT E rr w' A tv uv xs S lo ∧ lo < E.L.length) ∧ (b = false → PT E rr w' B tv uv xs S lo):=by
 obtain ⟨t,u,ls,s,h1,h2,h3,h4,h5,hl⟩:=h
 dsimp only at h1
 cases hb : seesP E.L y s with
 | true =>
  rw [if_pos hb] at h1
  refine (psees_any y h2).mono fun e w' ⟨he,hbl⟩ => ⟨true,by rw [he,hb],Turned.of_below _ hbl,fun _ => ⟨⟨t,u,ls,s,h1,h2.below hbl,h3,h4,h5.turned (Turned.of_below (fun b => b = E.Q) hbl) hS,hl⟩,Nat.lt_of_le_of_lt hl (sees_lt hb)⟩,fun h => by cases h⟩
 | false =>
  rw [if_neg (by rw [hb];decide)] at h1
  refine (psees_any y h2).mono fun e w' ⟨he,hbl⟩ => ⟨false,by rw [he,hb],Turned.of_below _ hbl,(fun h => by cases h),fun _ => ⟨t,u,ls,s,h1,h2.below hbl,h3,h4,h5.turned (Turned.of_below (fun b => b = E.Q) hbl) hS,hl⟩⟩
theorem pt_takes {A B : Nd → Nd → List Nd → PS → Res} (y : ByteArray) (h : PT E rr w (fun t u ls s => if seesP E.L y s = true then A t u ls (stepP s) else B t u ls s) tv uv xs S lo) :
  Calls Tryz.prog 61 #[.pointer (some ⟨E.Q,0,none⟩),.string y] w fun e w' => ∃ b,e = .returned (.bool b) ∧ Turned w w' (fun b => b = E.Q) ∧ (b = true → PT E rr w' A tv uv xs S (lo + 1)) ∧ (b = false → PT E rr w' B tv uv xs S lo):=by
 obtain ⟨t,u,ls,s,h1,h2,h3,h4,h5,hl⟩:=h
 dsimp only at h1
 have hc:=ptakes_any y h2
 cases hb : seesP E.L y s with
 | true =>
  rw [if_pos hb] at h1
  rw [hb] at hc
  refine hc.mono fun e w' ⟨he,ht,hs⟩ => ⟨true,he,ht,fun _ => ⟨t,u,ls,_,h1,hs,h3,h4,h5.turned ht hS,Nat.succ_le_succ hl⟩,fun h => by cases h⟩
 | false =>
  rw [if_neg (by rw [hb];decide)] at h1
  rw [hb] at hc
  refine hc.mono fun e w' ⟨he,ht,hs⟩ => ⟨false,he,ht,(fun h => by cases h),fun _ => ⟨t,u,ls,s,h1,hs,h3,h4,h5.turned ht hS,hl⟩⟩
theorem pt_call {K : Nd → Nd → List Nd → Nd → PS → Res} {f : Nat} {c : Cmd} {fn : FuncId} (ih : PCall f c fn) (ho : rr ≠ .out) (hsub : ∀ b,w.heap.size ≤ b → S b) (h : PT E rr w (fun t u ls s => (run E.L E.e f c s).bind fun n s => K t u ls n s) tv uv xs S lo) :
  Calls Tryz.prog fn #[.pointer (some ⟨E.Q,0,none⟩)] w (Way E rr w fun v w' => ∃ x,v = nvA x ∧ PT1 E rr w' K tv uv xs x S lo):=by
 obtain ⟨t,u,ls,s,h1,h2,h3,h4,h5,hl⟩:=h
 have ho2 : run E.L E.e f c s ≠ .out:=fun hx => ho (h1.trans (bind_out hx))
 refine (ih E s w h2 ho2).mono ?_
 rintro e w' ⟨ht,⟨v,rfl,n,s',x,hr,rfl,hs,hi⟩ | ⟨c,p,hr,hc,rfl⟩⟩
 ·exact ⟨ht,.inl ⟨_,rfl,x,rfl,t,u,ls,n,s',h1.trans (bind_ok hr),hs,h3,h4,h5.turned ht hS,hi.weak (fun b _ hb => hsub b hb),Nat.le_trans hl (Nat.le_trans (Nat.le_add_right _ _) (run_mono _ _ _ _ _ _ _ hr))⟩⟩
 ·exact ⟨ht,.inr ⟨c,p,h1.trans (bind_no hr),hc,rfl⟩⟩
end
/-- Many more nodes do not turn what is wanted. -/
theorem want_many (L : List Tok) (e : Nat) (y : ByteArray) (s : PS) (m : Nat) : wantP L e y ⟨s.i,s.dep,m⟩ = (wantP L e y s).bind fun n s' => .ok n ⟨s'.i,s'.dep,m⟩:=by
 unfold wantP
 by_cases h : seesP L y s = true
 ·rw [if_pos h,if_pos (show seesP L y ⟨s.i,s.dep,m⟩ = true from h)]
  dsimp only
  repeat' split
  all_goals rfl
 ·rw [if_neg h,if_neg (show ¬ seesP L y ⟨s.i,s.dep,m⟩ = true from h)]
  rfl
theorem want_keeps {L : List Tok} {e : Nat} {y : ByteArray} {s : PS} {n : Nd} {s' : PS} (h : wantP L e y s = .ok n s') : s'.many = s.many:=by
 unfold wantP at h
 repeat' split at h
 all_goals cases h
 all_goals rfl
/-- A node made ahead of what is wanted behind it. -/
theorem want_made (L : List Tok) (e : Nat) (y : ByteArray) (s : PS) (K : PS → Res) : (wantP L e y ⟨s.i,s.dep,s.many + 1⟩).bind (fun _ s => K s) = (wantP L e y s).bind fun _ s => K ⟨s.i,s.dep,s.many + 1⟩:=by
 rw [want_many,bind_assoc]
 cases h : wantP L e y s with
 | no c p => rfl
 | out => rfl
 | ok n s' => simp only [ok_bind,want_keeps h]
/-- The result's box is filled. -/
theorem pt_end {w W W2 : World} {E : Env} {rr : Res} {tv uv : ByteArray} {xs : List NV} {x : NV} {S : Nat → Prop} {lo : Nat} {u0 u1 u2 u3 : Value} (hQ : E.Q < w.heap.size) (ht : Turned w W (fun b => b = E.Q)) (hx : Blk W w.heap.size 24 #[u0,u1,u2,u3]) (hS : ∀ b,S b → w.heap.size < b)
  (h : PT1 E rr W (fun _ _ _ n s => .ok n s) tv uv xs x S lo) (hW2 : W2 = ((((W.setCell ⟨w.heap.size,0,none⟩ (.int .i64 x.kind)).setCell ⟨w.heap.size,1,none⟩ (.string x.text)).setCell ⟨w.heap.size,2,none⟩ (.int .i64 x.num)).setCell ⟨w.heap.size,3,none⟩ (.slice x.a x.len x.cap))) :
  Blk W2 w.heap.size 24 #[.int .i64 x.kind,.string x.text,.int .i64 x.num,.slice x.a x.len x.cap] ∧ PEnd E rr w (.returned (nvA x)) W2:=by
 obtain ⟨t,u,ls,n,s,h1,h2,h3,h4,h5,h6,hl⟩:=h
 obtain ⟨k1,k2,k3,k4⟩:=box_node ht hx (Nat.le_refl _) (.int .i64 x.kind) (.string x.text) (.int .i64 x.num) (.slice x.a x.len x.cap)
 subst hW2
 refine ⟨k2,k1,.inl ⟨_,rfl,n,s,x,h1,rfl,h2.kept (Nat.le_of_eq k4.symm) (fun k hk => k3 k (by omega)),h6.kept (Nat.le_of_eq k4.symm) (fun b _ hb => k3 b (by have:=hS b hb;omega)) (fun b _ hb => Nat.le_of_lt (hS b hb))⟩⟩
end Go.Proofs.YtbpldfmmlgkfnaaGreatDoor
