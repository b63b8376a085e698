/- The document's parser: where it stands; what is seen, asked, wanted, named, made. The document's parser: what is wanted, named, made. The document's parser: where it has given up it stays so. Conditions: as each theorem says. -/
import Derived.Test.YtbpldfmmlgkfnaaGreatDoorEMemZ
import Derived.Test.YtbpldfmmlgkfnaaGreatDoorEPaSpec4
import Derived.Test.YtbpldfmmlgkfnaaGreatDoorELxSpec4
import Derived.Test.YtbpldfmmlgkfnaaGreatDoorELxE
import Derived.BigRegion
import Derived.Handy
import Derived.StillTailTactics
namespace Go.Proofs.YtbpldfmmlgkfnaaGreatDoor
open Go.RowKit
set_option linter.unusedVariables false

/-- What a parser has that does not change: its block, its tokens, the text's length. -/
structure Env where
 Q : Nat
 A : Option Addr
 c : Nat
 L : List Tok
 e : Nat
structure EnvOk (w : World) (E : Env) : Prop where
 toks : Toks w E.A E.L
 far : 0 < E.L.length → ∀ a,E.A = some a → a.block ≠ E.Q
 few : E.L.length ≤ 4000
 cap_ : E.L.length ≤ E.c
 okt : ∀ t ∈ E.L,OkT t.kind t.text
theorem EnvOk.kept {w w' : World} {E : Env} (h : EnvOk w E) (hz : w.heap.size ≤ w'.heap.size) (hb : ∀ k,k < w.heap.size → k ≠ E.Q → w'.heap[k]? = w.heap[k]?) : EnvOk w' E :=
 ⟨fun hl => by
  obtain ⟨b,o,e,hlt,hc⟩:=h.toks hl
  have hbq : b ≠ E.Q:=h.far hl _ e
  refine ⟨b,o,e,Nat.lt_of_lt_of_le hlt hz,fun i hi => ?_⟩
  obtain ⟨h1,h2,h3⟩:=hc i hi
  exact ⟨(World.cell?_of_block (a:=⟨b,o + i * 3,none⟩) (hb b hlt hbq)).trans h1,(World.cell?_of_block (a:=⟨b,o + i * 3 + 1,none⟩) (hb b hlt hbq)).trans h2,(World.cell?_of_block (a:=⟨b,o + i * 3 + 2,none⟩) (hb b hlt hbq)).trans h3⟩,h.far,h.few,h.cap_,h.okt⟩
theorem EnvOk.turned {w w' : World} {E : Env} (h : EnvOk w E) (ht : Turned w w' (fun k => k = E.Q)) : EnvOk w' E:=h.kept ht.size (fun k hk hq => ht.block k hk hq)
abbrev rCells (E : Env) (i dep many c p : Int) : Array Value:=#[.slice E.A E.L.length E.c,.int .i64 (E.e : Nat),.int .i64 i,.int .i64 dep,.int .i64 many,.int .i64 c,.int .i64 p]
/-- The parser stands well at s. -/
structure RGood (w : World) (E : Env) (s : PS) : Prop where
 env : EnvOk w E
 le : s.i ≤ E.L.length
 lo : -(s.i : Int) ≤ s.dep
 hi : s.dep ≤ 20
 blk : Blk w E.Q 96 (rCells E (s.i : Nat) s.dep (wrap64 (s.many : Nat)) 0 0)
/-- The parser has given up. -/
structure RBad (w : World) (E : Env) (c : Int) (p : Nat) : Prop where
 env : EnvOk w E
 ne : c ≠ 0
 blk : ∃ i d m : Int,Blk w E.Q 96 (rCells E i d m c (p : Nat))
theorem RGood.below {w w' : World} {E : Env} {s : PS} (h : RGood w E s) (hb : Below w.heap.size w w') : RGood w' E s:=⟨h.env.kept hb.size (fun k hk _ => hb.block k hk),h.le,h.lo,h.hi,h.blk.below hb h.blk.lt⟩
theorem RBad.below {w w' : World} {E : Env} {c : Int} {p : Nat} (h : RBad w E c p) (hb : Below w.heap.size w w') : RBad w' E c p:=⟨h.env.kept hb.size (fun k hk _ => hb.block k hk),h.ne,by obtain ⟨i,d,m,hq⟩:=h.blk;exact ⟨i,d,m,hq.below hb hq.lt⟩⟩
section
variable {w : World} {g : Nat} {t : TypeId} {v0 v1 v2 v3 v4 v5 v6 : Value}
theorem Blk.f7 (h : Blk w g t #[v0,v1,v2,v3,v4,v5,v6]) : w.cell? ⟨g,0,none⟩ = some v0 ∧ w.cell? ⟨g,1,none⟩ = some v1 ∧ w.cell? ⟨g,2,none⟩ = some v2 ∧ w.cell? ⟨g,3,none⟩ = some v3 ∧ w.cell? ⟨g,4,none⟩ = some v4 ∧ w.cell? ⟨g,5,none⟩ = some v5 ∧ w.cell? ⟨g,6,none⟩ = some v6 ∧
  w.frozen? ⟨g,2,none⟩ = false ∧ w.frozen? ⟨g,3,none⟩ = false ∧ w.frozen? ⟨g,4,none⟩ = false ∧ w.frozen? ⟨g,5,none⟩ = false ∧ w.frozen? ⟨g,6,none⟩ = false ∧ g < w.heap.size :=
 ⟨h.cell 0,h.cell 1,h.cell 2,h.cell 3,h.cell 4,h.cell 5,h.cell 6,h.frozen 2,h.frozen 3,h.frozen 4,h.frozen 5,h.frozen 6,h.lt⟩
end
set_option maxRecDepth 100000 in
theorem rsees_bad {w : World} {E : Env} {c : Int} {p : Nat} (x : ByteArray) (h : RBad w E c p) : Calls Tryz.prog 67 #[.pointer (some ⟨E.Q,0,none⟩),.string x] w fun e w' => e = .returned (.bool false) ∧ Below w.heap.size w w':=by
 obtain ⟨i,d,m,hq⟩:=h.blk
 obtain ⟨x0,x1,x2,x3,x4,x5,x6,-⟩:=hq.f7
 have hc : (c != 0) = true:=by simpa using h.ne
 clear hq h
 go_enter Tryz.func67,Tryz.ntmps67
 go_wp2_with fail
 go_quiet (fail)
 go_wp2
 go_ret
 exact ⟨rfl,belowN _ _ _⟩
set_option maxRecDepth 100000 in
theorem rsees_good {w : World} {E : Env} {s : PS} (x : ByteArray) (h : RGood w E s) : Calls Tryz.prog 67 #[.pointer (some ⟨E.Q,0,none⟩),.string x] w fun e w' => e = .returned (.bool (seesP E.L x s)) ∧ Below w.heap.size w w':=by
 obtain ⟨x0,x1,x2,x3,x4,x5,x6,-,-,-,-,-,xl⟩:=h.blk.f7
 have hfew:=h.env.few
 by_cases hlt : s.i < E.L.length
 ·obtain ⟨b,o,hA,hbl,hc⟩:=h.env.toks (by omega)
  obtain ⟨y1,y2,y3⟩:=hc s.i hlt
  have hv : seesP E.L x s = (sameT E.L[s.i].text x && (E.L[s.i].kind == 3 || E.L[s.i].kind == 4)):=by
   unfold seesP;rw [List.getElem?_eq_getElem hlt]
  have HV:=Lib.hid hv
  have HB:=Lib.hid (belowN w.heap.size w)
  have HQ:=Lib.hid h.blk
  have HC:=Lib.hid (And.intro y1 (And.intro y2 y3))
  generalize seesP E.L x s = v at *
  generalize E.L[s.i] = t at *
  unfold sameT at HV
  unfold rCells at HQ
  rw [hA] at x0 HQ
  clear h hc hv hA
  go_enter Tryz.func67,Tryz.ntmps67
  go_wp2_with fail
  go_quiet (fail)
  go_wp2
  have hcs : ((t.text.toList == x.toList) = false ∧ v = false) ∨ ((t.text.toList == x.toList) = true ∧ (t.kind == 3) = true ∧ v = true) ∨ ((t.text.toList == x.toList) = true ∧ (t.kind == 3) = false ∧ v = (t.kind == 4)):=by
   rw [HV.out]
   cases (t.text.toList == x.toList) <;> cases (t.kind == 3) <;> simp
  clear HV
  clear x0 x1 x2 x3 x4 x5 x6 y1 y2 y3
  have hq2:=HQ.out.drewN (nq + 1)
  obtain ⟨x0,x1,x2,x3,x4,x5,x6,-,-,-,-,-,-⟩:=hq2.f7
  have hq3:=hq2.alloc (.cells #[.int .i64 0,.string ⟨#[]⟩,.int .i64 0] 87)
  obtain ⟨z0,z1,z2,z3,z4,z5,z6,-,-,-,-,-,-⟩:=hq3.f7
  obtain ⟨y1,y2,y3⟩ : (w.drewN (nq + 1)).cell? ⟨b,o + s.i * 3,none⟩ = some (.int .i64 t.kind) ∧ (w.drewN (nq + 1)).cell? ⟨b,o + s.i * 3 + 1,none⟩ = some (.string t.text) ∧ (w.drewN (nq + 1)).cell? ⟨b,o + s.i * 3 + 2,none⟩ = some (.int .i64 (t.at_ : Nat)):=HC.out
  obtain ⟨o9,ho9⟩ : ∃ o : Obj,o = (.cells #[.int .i64 0,.string ⟨#[]⟩,.int .i64 0] 87):=⟨_,rfl⟩
  have u1:=(World.cell?_alloc_lt (w.drewN (nq + 1)) o9 ⟨b,o + s.i * 3,none⟩ hbl).trans y1
  have u2:=(World.cell?_alloc_lt (w.drewN (nq + 1)) o9 ⟨b,o + s.i * 3 + 1,none⟩ hbl).trans y2
  have u3:=(World.cell?_alloc_lt (w.drewN (nq + 1)) o9 ⟨b,o + s.i * 3 + 2,none⟩ hbl).trans y3
  subst ho9
  have hn : Blk ((w.drewN (nq + 1)).alloc (.cells #[.int .i64 0,.string ⟨#[]⟩,.int .i64 0] 87)) w.heap.size 87 #[.int .i64 0,.string ⟨#[]⟩,.int .i64 0]:=Blk.new _ _ _
  obtain ⟨n1,n2,n3,n4,n5,n6,-⟩:=hn.f3
  clear hq2 hq3 hn
  rcases hcs with ⟨h1,rfl⟩ | ⟨h1,h2,rfl⟩ | ⟨h1,h2,rfl⟩
  all_goals
   go_region
   all_goals
    go_wp2
    go_ret
    exact ⟨rfl,((((belowN w.heap.size w (nq + 1)).alloc (Nat.le_refl _) (.cells #[.int .i64 0,.string ⟨#[]⟩,.int .i64 0] 87)).setCell (p:=⟨w.heap.size,0,none⟩) (Nat.le_refl _) _).setCell (p:=⟨w.heap.size,1,none⟩) (Nat.le_refl _) _).setCell (p:=⟨w.heap.size,2,none⟩) (Nat.le_refl _) _⟩
 ·have hv : seesP E.L x s = false:=by
   unfold seesP;rw [List.getElem?_eq_none (by omega)]
  rw [hv]
  clear h hv
  go_enter Tryz.func67,Tryz.ntmps67
  go_wp2_with fail
  go_quiet (fail)
  go_wp2
  go_ret
  exact ⟨rfl,belowN _ _ _⟩
set_option maxRecDepth 100000 in
theorem ris_bad {w : World} {E : Env} {c : Int} {p : Nat} (k : Int) (h : RBad w E c p) : Calls Tryz.prog 110 #[.pointer (some ⟨E.Q,0,none⟩),.int .i64 k] w fun e w' => e = .returned (.bool false) ∧ Below w.heap.size w w':=by
 obtain ⟨i,d,m,hq⟩:=h.blk
 obtain ⟨x0,x1,x2,x3,x4,x5,x6,-⟩:=hq.f7
 have hc : (c == 0) = false:=by simpa using h.ne
 clear hq h
 go_enter Tryz.func110,Tryz.ntmps110
 go_wp2_with fail
 go_quiet (fail)
 go_wp2
 go_ret
 exact ⟨rfl,belowN _ _ _⟩
set_option maxRecDepth 100000 in
theorem ris_good {w : World} {E : Env} {s : PS} (k : Int) (h : RGood w E s) : Calls Tryz.prog 110 #[.pointer (some ⟨E.Q,0,none⟩),.int .i64 k] w fun e w' => e = .returned (.bool (isP E.L k s)) ∧ Below w.heap.size w w':=by
 obtain ⟨x0,x1,x2,x3,x4,x5,x6,-,-,-,-,-,xl⟩:=h.blk.f7
 have hfew:=h.env.few
 by_cases hlt : s.i < E.L.length
 ·obtain ⟨b,o,hA,hbl,hc⟩:=h.env.toks (by omega)
  obtain ⟨y1,y2,y3⟩:=hc s.i hlt
  have hv : isP E.L k s = (E.L[s.i].kind == k):=by
   unfold isP;rw [List.getElem?_eq_getElem hlt]
  rw [hv]
  generalize E.L[s.i] = t at *
  rw [hA] at x0
  clear h hc hA hv
  go_enter Tryz.func110,Tryz.ntmps110
  go_wp2_with fail
  go_quiet (fail)
  go_wp2
  go_ret
  exact ⟨rfl,belowN _ _ _⟩
 ·have hv : isP E.L k s = false:=by
   unfold isP;rw [List.getElem?_eq_none (by omega)]
  rw [hv]
  clear h hv
  go_enter Tryz.func110,Tryz.ntmps110
  go_wp2_with fail
  go_quiet (fail)
  go_wp2
  go_ret
  exact ⟨rfl,belowN _ _ _⟩
set_option maxRecDepth 100000 in
theorem rfail_bad {w : World} {E : Env} {c : Int} {p : Nat} (k : Int) (h : RBad w E c p) : Calls Tryz.prog 36 #[.pointer (some ⟨E.Q,0,none⟩),.int .i64 k] w fun e w' => e = .returned (.tuple #[]) ∧ w = w':=by
 obtain ⟨i,d,m,hq⟩:=h.blk
 obtain ⟨x0,x1,x2,x3,x4,x5,x6,-⟩:=hq.f7
 have hc : (c != 0) = true:=by simpa using h.ne
 clear hq h
 go_enter Tryz.func36,Tryz.ntmps36
 go_wp2_with fail
 go_returns
 exact ⟨rfl,rfl⟩
set_option maxRecDepth 100000 in
theorem rfail_raw {w : World} {E : Env} (i : Nat) (dep many : Int) (k : Int) (hk : k ≠ 0) (he : EnvOk w E) (hq : Blk w E.Q 96 (rCells E (i : Nat) dep many 0 0)) : Calls Tryz.prog 36 #[.pointer (some ⟨E.Q,0,none⟩),.int .i64 k] w fun e w' => e = .returned (.tuple #[]) ∧ Turned w w' (fun b => b = E.Q) ∧ RBad w' E k (posP E.L E.e ⟨i,0,0⟩):=by
 have HE:=Lib.hid he
 obtain ⟨x0,x1,x2,x3,x4,x5,x6,-,-,-,f5,f6,xl⟩:=hq.f7
 have hfew:=he.few
 have fin : ∀ (n : Nat) (u : Int),u = (posP E.L E.e ⟨i,0,0⟩ : Nat) → Turned w (((w.drewN n).setCell ⟨E.Q,5,none⟩ (.int .i64 k)).setCell ⟨E.Q,6,none⟩ (.int .i64 u)) (fun b => b = E.Q) ∧ RBad (((w.drewN n).setCell ⟨E.Q,5,none⟩ (.int .i64 k)).setCell ⟨E.Q,6,none⟩ (.int .i64 u)) E k (posP E.L E.e ⟨i,0,0⟩):=fun n u hu => by
  have ht:=((((Turned.refl w (fun b => b = E.Q)).drewN n).setCell (p:=⟨E.Q,5,none⟩) (.inl rfl) (.int .i64 k)).setCell (p:=⟨E.Q,6,none⟩) (.inl rfl) (.int .i64 u))
  have hb:=((hq.drewN n).set_ 5 (.int .i64 k)).set_ 6 (.int .i64 u)
  subst hu
  exact ⟨ht,HE.out.turned ht,hk,_,_,_,hb⟩
 have FIN:=Lib.hid fin
 by_cases hlt : i < E.L.length
 ·obtain ⟨b,o,hA,hbl,hc⟩:=he.toks (by omega)
  obtain ⟨y1,y2,y3⟩:=hc i hlt
  have hv : posP E.L E.e ⟨i,0,0⟩ = E.L[i].at_:=by
   unfold posP;rw [List.getElem?_eq_getElem hlt]
  have HV:=Lib.hid hv
  rw [hA] at x0
  clear hv hq he hc fin HE hA
  go_enter Tryz.func36,Tryz.ntmps36
  go_wp2_with fail
  go_quiet (fail)
  go_wp2
  go_quiet (fail)
  go_wp2
  go_returns
  exact ⟨rfl,FIN.out _ _ (by rw [HV.out])⟩
 ·have hv : posP E.L E.e ⟨i,0,0⟩ = E.e:=by
   unfold posP;rw [List.getElem?_eq_none (by show E.L.length ≤ i;omega)]
  have HV:=Lib.hid hv
  clear hv hq he fin HE
  go_enter Tryz.func36,Tryz.ntmps36
  go_wp2_with fail
  go_quiet (fail)
  go_wp2
  go_returns
  exact ⟨rfl,FIN.out _ _ (by rw [HV.out])⟩
theorem rfail_good {w : World} {E : Env} {s : PS} (k : Int) (hk : k ≠ 0) (h : RGood w E s) : Calls Tryz.prog 36 #[.pointer (some ⟨E.Q,0,none⟩),.int .i64 k] w fun e w' => e = .returned (.tuple #[]) ∧ Turned w w' (fun b => b = E.Q) ∧ RBad w' E k (posP E.L E.e s):=rfail_raw s.i _ _ k hk h.env h.blk
theorem wrap_dep {d : Int} (h1 : -5000 ≤ d) (h2 : d ≤ 5000) : IntKind.i64.wrap d = d:=IntWalk.i64_in _ (by omega)
theorem wrap_succ (m : Nat) : wrap64 (wrap64 (m : Int) + 1) = wrap64 ((m + 1 : Nat) : Int):=by
 simp only [wrap64];omega
set_option maxRecDepth 100000 in
/-- One deeper: or too deep. -/
theorem rdeeper_good {w : World} {E : Env} {s : PS} (h : RGood w E s) : Calls Tryz.prog 97 #[.pointer (some ⟨E.Q,0,none⟩)] w fun e w' => e = .returned (.tuple #[]) ∧ Turned w w' (fun b => b = E.Q) ∧ (if 20 < s.dep + 1 then RBad w' E 13 (posP E.L E.e s) else RGood w' E ⟨s.i,s.dep + 1,s.many⟩):=by
 have hq:=h.blk
 have hl:=h.lo
 have hh:=h.hi
 have hle:=h.le
 have hfew:=h.env.few
 have hw : IntKind.i64.wrap (s.dep + 1) = s.dep + 1:=wrap_dep (by omega) (by omega)
 have ht:=(Turned.refl w (fun b => b = E.Q)).setCell (p:=⟨E.Q,3,none⟩) (.inl rfl) (.int .i64 (s.dep + 1))
 have hb : Blk (w.setCell ⟨E.Q,3,none⟩ (.int .i64 (s.dep + 1))) E.Q 96 (rCells E (s.i : Nat) (s.dep + 1) (wrap64 (s.many : Nat)) 0 0):=hq.set_ 3 (.int .i64 (s.dep + 1))
 have he:=h.env.turned ht
 have HT:=Lib.hid ht;have HB:=Lib.hid hb;have HE:=Lib.hid he
 obtain ⟨x0,x1,x2,x3,x4,x5,x6,f2,f3,f4,f5,f6,xl⟩:=hq.f7
 by_cases hd : 20 < s.dep + 1
 ·simp only [if_pos hd]
  have HF:=Lib.hid (rfail_raw s.i _ _ 13 (by decide) he hb)
  clear hq h ht hb he
  go_enter Tryz.func97,Tryz.ntmps97
  go_wp2_with (go_at_call 36;refine HF.out.mono ?_;rintro e w' ⟨rfl,ht2,hb2⟩;have HT2:=Lib.hid ht2;have HB2:=Lib.hid hb2;clear ht2 hb2)
  go_returns
  exact ⟨rfl,HT.out.then HT2.out,HB2.out⟩
 ·simp only [if_neg hd]
  clear hq h ht hb he
  go_enter Tryz.func97,Tryz.ntmps97
  go_wp2_with fail
  go_returns
  exact ⟨rfl,HT.out,HE.out,hle,(by show -(s.i : Int) ≤ s.dep + 1;omega),(by show s.dep + 1 ≤ 20;omega),HB.out⟩
/-- The parser stands so: well, or it has given up. -/
def RAt (w : World) (E : Env) : Res → Prop
 | .ok _ s => RGood w E s
 | .no c p => RBad w E c p
 | .out => False
theorem RAt.below {w w' : World} {E : Env} {r : Res} (h : RAt w E r) (hb : Below w.heap.size w w') : RAt w' E r:=by
 cases r with
 | ok n s => exact RGood.below h hb
 | no c p => exact RBad.below h hb
 | out => exact h.elim
def seesR (L : List Tok) (x : ByteArray) : Res → Bool
 | .ok _ s => seesP L x s
 | _ => false
def isR (L : List Tok) (k : Int) : Res → Bool
 | .ok _ s => isP L k s
 | _ => false
theorem rsees_any {w : World} {E : Env} {r : Res} (x : ByteArray) (h : RAt w E r) : Calls Tryz.prog 67 #[.pointer (some ⟨E.Q,0,none⟩),.string x] w fun e w' => e = .returned (.bool (seesR E.L x r)) ∧ Below w.heap.size w w':=by
 cases r with
 | ok n s => exact rsees_good x h
 | no c p => exact rsees_bad x h
 | out => exact h.elim
theorem ris_any {w : World} {E : Env} {r : Res} (k : Int) (h : RAt w E r) : Calls Tryz.prog 110 #[.pointer (some ⟨E.Q,0,none⟩),.int .i64 k] w fun e w' => e = .returned (.bool (isR E.L k r)) ∧ Below w.heap.size w w':=by
 cases r with
 | ok n s => exact ris_good k h
 | no c p => exact ris_bad k h
 | out => exact h.elim
theorem RGood.step {w : World} {E : Env} {s : PS} (h : RGood w E s) (hi : s.i < E.L.length) : RGood (w.setCell ⟨E.Q,2,none⟩ (.int .i64 ((s.i : Int) + 1))) E (stepP s) ∧ Turned w (w.setCell ⟨E.Q,2,none⟩ (.int .i64 ((s.i : Int) + 1))) (fun b => b = E.Q):=by
 have ht:=(Turned.refl w (fun b => b = E.Q)).setCell (p:=⟨E.Q,2,none⟩) (.inl rfl) (.int .i64 ((s.i : Int) + 1))
 exact ⟨⟨h.env.turned ht,hi,(by have:=h.lo;show -((s.i + 1 : Nat) : Int) ≤ s.dep;omega),h.hi,h.blk.set_ 2 (.int .i64 ((s.i : Int) + 1))⟩,ht⟩
set_option maxRecDepth 100000 in
theorem rbegins_yes {w : World} {E : Env} {r : Res} {x : ByteArray} (h : RAt w E r) (hs : seesR E.L x r = true) : Calls Tryz.prog 111 #[.pointer (some ⟨E.Q,0,none⟩),.string x] w fun e w' => e = .returned (.bool true) ∧ Turned w w' (fun b => b = E.Q) ∧ RAt w' E (r.bind fun n s => .ok n (stepP s)):=by
 cases r with
 | no c p => cases hs
 | out => cases hs
 | ok n s =>
  have hlt : s.i < E.L.length:=sees_lt hs
  have HS:=Lib.hid (rsees_good x h)
  rw [show seesP E.L x s = true from hs] at HS
  have HG:=Lib.hid (show RGood w E s from h)
  have hfew:=HG.out.env.few
  clear h hs
  go_enter Tryz.func111,Tryz.ntmps111
  go_wp2_with fail
  refine HS.out.mono ?_
  rintro e w2 ⟨rfl,hb2⟩
  have hg2:=HG.out.below hb2
  have HT:=Lib.hid (Turned.of_below (fun b => b = E.Q) hb2)
  obtain ⟨x0,x1,x2,x3,x4,x5,x6,f2,f3,f4,f5,f6,xl⟩:=hg2.blk.f7
  have HG2:=Lib.hid hg2
  have hw : IntKind.i64.wrap ((s.i : Int) + 1) = (s.i : Int) + 1:=IntWalk.i64_in _ (by omega)
  clear hb2 hg2 HG HS
  go_wp2_with fail
  go_returns
  obtain ⟨h1,h2⟩:=HG2.out.step hlt
  exact ⟨rfl,HT.out.then h2,h1⟩
set_option maxRecDepth 100000 in
theorem rbegins_no {w : World} {E : Env} {r : Res} {x : ByteArray} (h : RAt w E r) (hs : seesR E.L x r = false) : Calls Tryz.prog 111 #[.pointer (some ⟨E.Q,0,none⟩),.string x] w fun e w' => e = .returned (.bool false) ∧ Turned w w' (fun b => b = E.Q) ∧ RAt w' E r:=by
 have HS:=Lib.hid (rsees_any x h)
 rw [hs] at HS
 have HG:=Lib.hid h
 clear h hs
 go_enter Tryz.func111,Tryz.ntmps111
 go_wp2_with fail
 refine HS.out.mono ?_
 rintro e w2 ⟨rfl,hb2⟩
 have HT:=Lib.hid (Turned.of_below (fun b => b = E.Q) hb2)
 have HG2:=Lib.hid (HG.out.below hb2)
 clear hb2 HG HS
 go_wp2_with fail
 go_returns
 exact ⟨rfl,HT.out,HG2.out⟩
end Go.Proofs.YtbpldfmmlgkfnaaGreatDoor

namespace Go.Proofs.YtbpldfmmlgkfnaaGreatDoor
open Go.RowKit
set_option linter.unusedVariables false

theorem tx_lp : tx "(" = ⟨#[40]⟩:=by decide +kernel
theorem tx_rp : tx ")" = ⟨#[41]⟩:=by decide +kernel
theorem tx_lb : tx "\x7b" = ⟨#[123]⟩:=by decide +kernel
theorem tx_rb : tx "\x7d" = ⟨#[125]⟩:=by decide +kernel
theorem eq_of_beq {x y : ByteArray} (h : (x.toList == y.toList) = true) : x = y:=(Lib.bytes_beq_iff x y).1 h
theorem beq_of_ne {x y : ByteArray} (h : x ≠ y) : (x.toList == y.toList) = false:=(Lib.bytes_beq_false_iff x y).2 h
theorem beq_one {x : ByteArray} {k : UInt8} (h : x ≠ ⟨#[k]⟩) : (x.toList == [k]) = false:=by
 have:=beq_of_ne h
 rwa [show (⟨#[k]⟩ : ByteArray).toList = [k] by rw [ByteArray.toList_eq]] at this
theorem RGood.up {w : World} {E : Env} {s : PS} (h : RGood w E s) (hd : -(s.i : Int) ≤ s.dep - 1) : RGood (w.setCell ⟨E.Q,3,none⟩ (.int .i64 (s.dep - 1))) E ⟨s.i,s.dep - 1,s.many⟩ ∧ Turned w (w.setCell ⟨E.Q,3,none⟩ (.int .i64 (s.dep - 1))) (fun b => b = E.Q):=by
 have ht:=(Turned.refl w (fun b => b = E.Q)).setCell (p:=⟨E.Q,3,none⟩) (.inl rfl) (.int .i64 (s.dep - 1))
 exact ⟨⟨h.env.turned ht,h.le,hd,(by have:=h.hi;show s.dep - 1 ≤ 20;omega),h.blk.set_ 3 (.int .i64 (s.dep - 1))⟩,ht⟩
theorem rwant_see {w : World} {E : Env} {r : Res} (x : ByteArray) (h : RAt w E r) (hs : seesR E.L x r = false) : Calls Tryz.prog 69 #[.pointer (some ⟨E.Q,0,none⟩),.string x] w fun e w' => e = .returned (.tuple #[]) ∧ Turned w w' (fun b => b = E.Q) ∧ RAt w' E (r.bind fun _ s => wantP E.L E.e x s):=by
 have HS:=Lib.hid (rsees_any x h)
 rw [hs] at HS
 cases r with
 | out => exact h.elim
 | no c p =>
  have HG:=Lib.hid (show RBad w E c p from h)
  clear h hs
  go_enter Tryz.func69,Tryz.ntmps69
  go_wp2_with fail
  refine HS.out.mono ?_
  rintro e w2 ⟨rfl,hb2⟩
  have HT:=Lib.hid (Turned.of_below (fun b => b = E.Q) hb2)
  have HG2:=Lib.hid (HG.out.below hb2)
  have HF:=Lib.hid (rfail_bad 12 HG2.out)
  clear hb2 HG HS
  go_wp2_with (go_at_call 36;refine HF.out.mono ?_;rintro e w' ⟨rfl,rfl⟩)
  go_returns
  exact ⟨rfl,HT.out,HG2.out⟩
 | ok n s =>
  have HG:=Lib.hid (show RGood w E s from h)
  have HR : Hid (wantP E.L E.e x s = failP E.L E.e 12 s):=by
   show _ = _
   unfold wantP
   rw [if_neg (by rw [show seesP E.L x s = false from hs];decide)]
  clear h hs
  go_enter Tryz.func69,Tryz.ntmps69
  go_wp2_with fail
  refine HS.out.mono ?_
  rintro e w2 ⟨rfl,hb2⟩
  have HT:=Lib.hid (Turned.of_below (fun b => b = E.Q) hb2)
  have HG2:=Lib.hid (HG.out.below hb2)
  have HF:=Lib.hid (rfail_good 12 (by decide) HG2.out)
  clear hb2 HG HS
  go_wp2_with (go_at_call 36;refine HF.out.mono ?_;rintro e w' ⟨rfl,ht,hb⟩;have HT2:=Lib.hid ht;have HB2:=Lib.hid hb;clear ht hb)
  go_returns
  refine ⟨rfl,HT.out.then HT2.out,?_⟩
  show RAt _ E (wantP E.L E.e x s)
  rw [HR.out]
  exact HB2.out
set_option maxRecDepth 100000 in
theorem rwant_any {w : World} {E : Env} {r : Res} (x : ByteArray) (h : RAt w E r) : Calls Tryz.prog 69 #[.pointer (some ⟨E.Q,0,none⟩),.string x] w fun e w' => e = .returned (.tuple #[]) ∧ Turned w w' (fun b => b = E.Q) ∧ RAt w' E (r.bind fun _ s => wantP E.L E.e x s):=by
 cases hs : seesR E.L x r with
 | false => exact rwant_see x h hs
 | true =>
  cases r with
  | no c p => cases hs
  | out => cases hs
  | ok n s =>
   have hs' : seesP E.L x s = true:=hs
   have hlt : s.i < E.L.length:=sees_lt hs'
   have HS:=Lib.hid (rsees_good x h)
   rw [hs'] at HS
   have HG:=Lib.hid (show RGood w E s from h)
   have hfew:=HG.out.env.few
   have hle:=HG.out.lo
   have hhi:=HG.out.hi
   have HR : Hid (wantP E.L E.e x s = if x = ⟨#[40]⟩ ∨ x = ⟨#[123]⟩ then (if 20 < s.dep + 1 then failP E.L E.e 13 s else .ok nd0 ⟨s.i + 1,s.dep + 1,s.many⟩) else if x = ⟨#[41]⟩ ∨ x = ⟨#[125]⟩ then .ok nd0 ⟨s.i + 1,s.dep - 1,s.many⟩ else .ok nd0 (stepP s)):=by
    show _ = _
    unfold wantP
    rw [if_pos hs',tx_lp,tx_rp,tx_lb,tx_rb]
   clear h hs hs'
   show Calls _ _ _ w fun e w' => e = .returned (.tuple #[]) ∧ Turned w w' (fun b => b = E.Q) ∧ RAt w' E (wantP E.L E.e x s)
   have hw : IntKind.i64.wrap ((s.i : Int) + 1) = (s.i : Int) + 1:=IntWalk.i64_in _ (by omega)
   have hw2 : IntKind.i64.wrap (s.dep - 1) = s.dep - 1:=wrap_dep (by omega) (by omega)
   by_cases ho : x = ⟨#[40]⟩ ∨ x = ⟨#[123]⟩
   ·have HR2:=Lib.hid (HR.out.trans (if_pos ho))
    by_cases hd : 20 < s.dep + 1
    ·have HR3:=Lib.hid (HR2.out.trans (if_pos hd))
     rcases ho with rfl | rfl
     all_goals
      go_enter Tryz.func69,Tryz.ntmps69
      go_wp2_with fail
      refine HS.out.mono ?_
      rintro e w2 ⟨rfl,hb2⟩
      have HT:=Lib.hid (Turned.of_below (fun b => b = E.Q) hb2)
      have HG2:=Lib.hid (HG.out.below hb2)
      have hdp:=rdeeper_good HG2.out
      simp only [if_pos hd] at hdp
      have HD:=Lib.hid hdp
      clear hb2 hdp
      go_wp2_with fail
      refine HD.out.mono ?_
      rintro e w3 ⟨rfl,ht3,hb3⟩
      have HT3:=Lib.hid ht3
      have HB3:=Lib.hid hb3
      obtain ⟨i,d,m,hq⟩:=hb3.blk
      obtain ⟨x0,x1,x2,x3,x4,x5,x6,-⟩:=hq.f7
      clear hq ht3 hb3
      go_wp2_with fail
      go_returns
      refine ⟨rfl,HT.out.then HT3.out,?_⟩
      rw [HR3.out]
      exact HB3.out
    ·have HR3:=Lib.hid (HR2.out.trans (if_neg hd))
     rcases ho with rfl | rfl
     all_goals
      go_enter Tryz.func69,Tryz.ntmps69
      go_wp2_with fail
      refine HS.out.mono ?_
      rintro e w2 ⟨rfl,hb2⟩
      have HT:=Lib.hid (Turned.of_below (fun b => b = E.Q) hb2)
      have HG2:=Lib.hid (HG.out.below hb2)
      have hdp:=rdeeper_good HG2.out
      simp only [if_neg (Int.not_lt.2 hd)] at hdp
      have HD:=Lib.hid hdp
      clear hb2 hdp
      go_wp2_with fail
      refine HD.out.mono ?_
      rintro e w3 ⟨rfl,ht3,hb3⟩
      have HT3:=Lib.hid ht3
      have HB3:=Lib.hid hb3
      obtain ⟨x0,x1,x2,x3,x4,x5,x6,f2,f3,f4,f5,f6,xl⟩:=hb3.blk.f7
      clear ht3 hb3
      go_wp2_with fail
      go_returns
      obtain ⟨h1,h2⟩:=HB3.out.step hlt
      refine ⟨rfl,(HT.out.then HT3.out).then h2,?_⟩
      rw [HR3.out]
      exact h1
   ·have HR2:=Lib.hid (HR.out.trans (if_neg ho))
    have c1 : (x.toList == [40]) = false:=beq_one (fun e => ho (.inl e))
    have c2 : (x.toList == [123]) = false:=beq_one (fun e => ho (.inr e))
    by_cases hcl : x = ⟨#[41]⟩ ∨ x = ⟨#[125]⟩
    ·have HR3:=Lib.hid (HR2.out.trans (if_pos hcl))
     rcases hcl with rfl | rfl
     all_goals
      go_enter Tryz.func69,Tryz.ntmps69
      go_wp2_with fail
      refine HS.out.mono ?_
      rintro e w2 ⟨rfl,hb2⟩
      have HT:=Lib.hid (Turned.of_below (fun b => b = E.Q) hb2)
      have HG2:=Lib.hid (HG.out.below hb2)
      obtain ⟨x0,x1,x2,x3,x4,x5,x6,f2,f3,f4,f5,f6,xl⟩:=HG2.out.blk.f7
      clear hb2
      go_wp2_with fail
      go_returns
      obtain ⟨h1,h2⟩:=HG2.out.step hlt
      obtain ⟨h3,h4⟩:=h1.up (by have:=HG2.out.lo;show -((s.i + 1 : Nat) : Int) ≤ s.dep - 1;omega)
      refine ⟨rfl,(HT.out.then h2).then h4,?_⟩
      rw [HR3.out]
      exact h3
    ·have HR3:=Lib.hid (HR2.out.trans (if_neg hcl))
     have c3 : (x.toList == [41]) = false:=beq_one (fun e => hcl (.inl e))
     have c4 : (x.toList == [125]) = false:=beq_one (fun e => hcl (.inr e))
     clear ho hcl
     go_enter Tryz.func69,Tryz.ntmps69
     go_wp2_with fail
     refine HS.out.mono ?_
     rintro e w2 ⟨rfl,hb2⟩
     have HT:=Lib.hid (Turned.of_below (fun b => b = E.Q) hb2)
     have HG2:=Lib.hid (HG.out.below hb2)
     obtain ⟨x0,x1,x2,x3,x4,x5,x6,f2,f3,f4,f5,f6,xl⟩:=HG2.out.blk.f7
     clear hb2
     go_wp2_with fail
     go_returns
     obtain ⟨h1,h2⟩:=HG2.out.step hlt
     refine ⟨rfl,HT.out.then h2,?_⟩
     rw [HR3.out]
     exact h1
def nameT (L : List Tok) : Res → ByteArray
 | .ok _ s => if isP L 1 s = true then textP L s else ByteArray.empty
 | _ => ByteArray.empty
set_option maxRecDepth 100000 in
theorem rname_any {w : World} {E : Env} {r : Res} (h : RAt w E r) : Calls Tryz.prog 95 #[.pointer (some ⟨E.Q,0,none⟩)] w fun e w' => e = .returned (.string (nameT E.L r)) ∧ Turned w w' (fun b => b = E.Q) ∧ RAt w' E (r.bind fun _ s => nameP E.L E.e s):=by
 have HS:=Lib.hid (ris_any 1 h)
 cases r with
 | out => exact h.elim
 | no c p =>
  rw [show isR E.L 1 (.no c p) = false from rfl] at HS
  have HG:=Lib.hid (show RBad w E c p from h)
  clear h
  go_enter Tryz.func95,Tryz.ntmps95
  go_wp2_with fail
  refine HS.out.mono ?_
  rintro e w2 ⟨rfl,hb2⟩
  have HT:=Lib.hid (Turned.of_below (fun b => b = E.Q) hb2)
  have HG2:=Lib.hid (HG.out.below hb2)
  have HF:=Lib.hid (rfail_bad 12 HG2.out)
  clear hb2 HG HS
  go_wp2_with (go_at_call 36;refine HF.out.mono ?_;rintro e w' ⟨rfl,rfl⟩)
  go_returns
  exact ⟨rfl,HT.out,HG2.out⟩
 | ok n s =>
  have HG:=Lib.hid (show RGood w E s from h)
  show Calls _ _ _ w fun e w' => e = .returned (.string (if isP E.L 1 s = true then textP E.L s else ByteArray.empty)) ∧ Turned w w' (fun b => b = E.Q) ∧ RAt w' E (nameP E.L E.e s)
  unfold isR at HS
  dsimp only at HS
  unfold nameP
  cases hs : isP E.L 1 s with
  | false =>
   rw [hs] at HS
   rw [if_neg (by decide)]
   simp only [if_neg (show ¬ false = true by decide)]
   clear h hs
   go_enter Tryz.func95,Tryz.ntmps95
   go_wp2_with fail
   refine HS.out.mono ?_
   rintro e w2 ⟨rfl,hb2⟩
   have HT:=Lib.hid (Turned.of_below (fun b => b = E.Q) hb2)
   have HG2:=Lib.hid (HG.out.below hb2)
   have HF:=Lib.hid (rfail_good 12 (by decide) HG2.out)
   clear hb2 HG HS
   go_wp2_with (go_at_call 36;refine HF.out.mono ?_;rintro e w' ⟨rfl,ht,hb⟩;have HT2:=Lib.hid ht;have HB2:=Lib.hid hb;clear ht hb)
   go_returns
   exact ⟨rfl,HT.out.then HT2.out,HB2.out⟩
  | true =>
   rw [hs] at HS
   simp only [if_true]
   have hlt:=is_lt hs
   have hfew:=HG.out.env.few
   have hv : textP E.L s = E.L[s.i].text:=by unfold textP;rw [List.getElem?_eq_getElem hlt]
   have HV:=Lib.hid hv
   clear h hs hv
   have hw : IntKind.i64.wrap ((s.i : Int) + 1) = (s.i : Int) + 1:=IntWalk.i64_in _ (by omega)
   have hw2 : IntKind.i64.wrap (((stepP s).i : Int) - 1) = (s.i : Int):=by
    show IntKind.i64.wrap (((s.i + 1 : Nat) : Int) - 1) = _
    rw [show (((s.i + 1 : Nat) : Int) - 1) = (s.i : Int) by omega];exact IntWalk.i64_in _ (by omega)
   go_enter Tryz.func95,Tryz.ntmps95
   go_wp2_with fail
   refine HS.out.mono ?_
   rintro e w2 ⟨rfl,hb2⟩
   have HT:=Lib.hid (Turned.of_below (fun b => b = E.Q) hb2)
   have HG2:=Lib.hid (HG.out.below hb2)
   obtain ⟨x0,x1,x2,x3,x4,x5,x6,f2,f3,f4,f5,f6,xl⟩:=HG2.out.blk.f7
   have hst:=HG2.out.step hlt
   have HST:=Lib.hid hst
   obtain ⟨z0,z1,z2,z3,z4,z5,z6,g2,g3,g4,g5,g6,zl⟩:=hst.1.blk.f7
   obtain ⟨b,o,hA,hbl,hc⟩:=hst.1.env.toks (by omega)
   obtain ⟨y1,y2,y3⟩:=hc s.i hlt
   rw [hA] at x0 z0
   clear hb2 hst hc hA
   go_wp2_with fail
   go_quiet (fail)
   go_wp2
   go_returns
   exact ⟨by rw [HV.out];rfl,(HT.out.then HST.out.2).drewN _,HST.out.1.below (belowN _ _ _)⟩
/-- A box for a node's result, filled. -/
theorem box_node {w W : World} {E : Env} {R : Nat} {u0 u1 u2 u3 : Value} (ht : Turned w W (fun b => b = E.Q)) (hb : Blk W R 24 #[u0,u1,u2,u3]) (hR : w.heap.size ≤ R) (v0 v1 v2 v3 : Value) :
  Turned w ((((W.setCell ⟨R,0,none⟩ v0).setCell ⟨R,1,none⟩ v1).setCell ⟨R,2,none⟩ v2).setCell ⟨R,3,none⟩ v3) (fun b => b = E.Q) ∧ Blk ((((W.setCell ⟨R,0,none⟩ v0).setCell ⟨R,1,none⟩ v1).setCell ⟨R,2,none⟩ v2).setCell ⟨R,3,none⟩ v3) R 24 #[v0,v1,v2,v3] ∧
  (∀ k,k ≠ R → ((((W.setCell ⟨R,0,none⟩ v0).setCell ⟨R,1,none⟩ v1).setCell ⟨R,2,none⟩ v2).setCell ⟨R,3,none⟩ v3).heap[k]? = W.heap[k]?) ∧ ((((W.setCell ⟨R,0,none⟩ v0).setCell ⟨R,1,none⟩ v1).setCell ⟨R,2,none⟩ v2).setCell ⟨R,3,none⟩ v3).heap.size = W.heap.size :=
 ⟨(((ht.setCell (p:=⟨R,0,none⟩) (.inr hR) v0).setCell (p:=⟨R,1,none⟩) (.inr hR) v1).setCell (p:=⟨R,2,none⟩) (.inr hR) v2).setCell (p:=⟨R,3,none⟩) (.inr hR) v3,
  (((hb.set_ 0 v0).set_ 1 v1).set_ 2 v2).set_ 3 v3,
  fun k hk => (Below.heap_setCell _ ⟨R,3,none⟩ _ _ hk).trans ((Below.heap_setCell _ ⟨R,2,none⟩ _ _ hk).trans ((Below.heap_setCell _ ⟨R,1,none⟩ _ _ hk).trans (Below.heap_setCell _ ⟨R,0,none⟩ _ _ hk))),by simp [World.setCell]⟩
theorem RAt.far {w0 w w' : World} {E : Env} {r : Res} {R : Nat} (h : RAt w E r) (h0 : EnvOk w0 E) (hR : w0.heap.size ≤ R) (hQ : E.Q < w0.heap.size) (hk : ∀ k,k ≠ R → w'.heap[k]? = w.heap[k]?) (hz : w'.heap.size = w.heap.size) : RAt w' E r:=by
 have he : ∀ (h : EnvOk w E),EnvOk w' E:=fun h => ⟨fun hl => by
  obtain ⟨b,o,e,hlt,hc⟩:=h.toks hl
  have hbq:=hk b (by
   obtain ⟨b',o',e',hlt',-⟩:=h0.toks hl
   rw [e] at e';cases e';omega)
  refine ⟨b,o,e,by rw [hz];exact hlt,fun i hi => ?_⟩
  obtain ⟨h1,h2,h3⟩:=hc i hi
  exact ⟨(World.cell?_of_block (a:=⟨b,o + i * 3,none⟩) hbq).trans h1,(World.cell?_of_block (a:=⟨b,o + i * 3 + 1,none⟩) hbq).trans h2,(World.cell?_of_block (a:=⟨b,o + i * 3 + 2,none⟩) hbq).trans h3⟩,h.far,h.few,h.cap_,h.okt⟩
 have hb : w'.heap[E.Q]? = w.heap[E.Q]?:=hk _ (by omega)
 cases r with
 | ok n s => exact ⟨he h.env,h.le,h.lo,h.hi,hb.trans h.blk⟩
 | no c p => exact ⟨he h.env,h.ne,by obtain ⟨i,d,m,hq⟩:=h.blk;exact ⟨i,d,m,hb.trans hq⟩⟩
 | out => exact h.elim
/-- The parser stands in old blocks. -/
theorem RAt.old {w : World} {E : Env} {r : Res} (h : RAt w E r) : E.Q < w.heap.size:=by
 cases r with
 | ok n s => exact h.blk.lt
 | no c p => obtain ⟨i,d,m,hq⟩:=h.blk;exact hq.lt
 | out => exact h.elim
theorem RAt.env {w : World} {E : Env} {r : Res} (h : RAt w E r) : EnvOk w E:=by
 cases r with
 | ok n s => exact RGood.env h
 | no c p => exact RBad.env h
 | out => exact h.elim
/-- What the parser's block holds. -/
theorem RAt.cells {w : World} {E : Env} {r : Res} (h : RAt w E r) : ∃ i d m c p : Int,Blk w E.Q 96 (rCells E i d m c p):=by
 cases r with
 | ok n s => exact ⟨_,_,_,_,_,RGood.blk h⟩
 | no c p => obtain ⟨i,d,m,hq⟩:=RBad.blk h;exact ⟨_,_,_,_,_,hq⟩
 | out => exact h.elim
/-- Many more by one. -/
def manyR (m : Nd) (r : Res) : Res:=r.bind fun _ s => .ok m ⟨s.i,s.dep,s.many + 1⟩
theorem RAt.node {w : World} {E : Env} {r : Res} (h : RAt w E r) : ∃ i d m c p : Int,Blk w E.Q 96 (rCells E i d m c p) ∧ ∀ n,RAt (w.setCell ⟨E.Q,4,none⟩ (.int .i64 (wrap64 (m + 1)))) E (manyR n r):=by
 have ht : ∀ u,Turned w (w.setCell ⟨E.Q,4,none⟩ u) (fun b => b = E.Q):=fun u => (Turned.refl w (fun b => b = E.Q)).setCell (p:=⟨E.Q,4,none⟩) (.inl rfl) u
 cases r with
 | ok n s =>
  refine ⟨_,_,_,_,_,RGood.blk h,fun n => ?_⟩
  have hb:=(RGood.blk h).set_ 4 (.int .i64 (wrap64 (wrap64 (s.many : Nat) + 1)))
  rw [wrap_succ] at hb ⊢
  have hg : RGood w E s:=h
  exact ⟨hg.env.turned (ht _),hg.le,hg.lo,hg.hi,hb⟩
 | no c p =>
  obtain ⟨i,d,m,hq⟩:=RBad.blk h
  exact ⟨_,_,_,_,_,hq,fun n => ⟨(RBad.env h).turned (ht _),RBad.ne h,_,_,_,hq.set_ 4 (.int .i64 (wrap64 (m + 1)))⟩⟩
 | out => exact h.elim
set_option maxRecDepth 100000 in
theorem rnode_any {w : World} {E : Env} {r : Res} (k : Int) (t : ByteArray) (a : Option Addr) (len cap : Nat) (h : RAt w E r) : Calls Tryz.prog 71 #[.pointer (some ⟨E.Q,0,none⟩),.int .i64 k,.string t,.slice a len cap] w fun e w' =>
  e = .returned (.agg #[.int .i64 k,.string t,.int .i64 0,.slice a len cap]) ∧ Turned w w' (fun b => b = E.Q) ∧ ∀ n,RAt w' E (manyR n r):=by
 obtain ⟨i,d,m,c,p,hq,hn⟩:=h.node
 have HN:=Lib.hid hn
 have HT:=Lib.hid ((Turned.refl w (fun b => b = E.Q)).setCell (p:=⟨E.Q,4,none⟩) (.inl rfl) (.int .i64 (wrap64 (m + 1))))
 have HQ:=Lib.hid hq
 obtain ⟨x0,x1,x2,x3,x4,x5,x6,f2,f3,f4,f5,f6,xl⟩:=hq.f7
 clear hq hn h
 go_enter Tryz.func71,Tryz.ntmps71
 go_wp2_with fail
 have hsz : (w.setCell ⟨E.Q,4,none⟩ (.int .i64 (wrap64 (m + 1)))).heap.size = w.heap.size:=by simp [World.setCell]
 refine open_post (fun W => Turned w W (fun b => b = E.Q) ∧ Blk W w.heap.size 24 #[.int .i64 k,.string t,.int .i64 0,.slice a len cap] ∧ ∀ n,RAt W E (manyR n r)) ⟨HT.out.alloc (.cells #[.int .i64 k,.string t,.int .i64 0,.slice a len cap] 24),by rw [← hsz];exact Blk.new _ _ _,fun n => (HN.out n).below ((Below.refl _ _).alloc (Nat.le_refl _) _)⟩ ?_
 rintro W ⟨hT,hQ,hk⟩
 obtain ⟨u1,u2,u3,u4,-⟩:=hQ.f4
 exact bodyPost_ret (v:=.agg #[.int .i64 k,.string t,.int .i64 0,.slice a len cap]) (by simp [results,Tryz.results71,go_sem,u1,u2,u3,u4]) rfl ⟨rfl,hT,hk⟩
end Go.Proofs.YtbpldfmmlgkfnaaGreatDoor

namespace Go.Proofs.YtbpldfmmlgkfnaaGreatDoor
open Go.RowKit
set_option linter.unusedVariables false

theorem bind_out {r : Res} {k : Nd → PS → Res} (h : r = .out) : r.bind k = .out:=by rw [h];rfl
theorem bind_ok {r : Res} {n : Nd} {s : PS} {k : Nd → PS → Res} (h : r = .ok n s) : r.bind k = k n s:=by rw [h];rfl
theorem bind_no {r : Res} {c : Int} {p : Nat} {k : Nd → PS → Res} (h : r = .no c p) : r.bind k = .no c p:=by rw [h];rfl
/-- What a command of the parser leaves: a node, the parser as the plain parser tells, what is well parsed in memory. -/
def REnd (E : Env) (r : Res) (w : World) (e : Ending) (w' : World) : Prop :=
 ∃ x : NV,e = .returned (nvA x) ∧ Turned w w' (fun b => b = E.Q) ∧ RAt w' E r ∧ ∀ n s,r = .ok n s → IsN w' (fun b => w.heap.size ≤ b) x n
section
variable {w : World} {E : Env} {c : Int} {p : Nat} (h : RBad w E c p)
include h
theorem rwant_bad (x : ByteArray) : Calls Tryz.prog 69 #[.pointer (some ⟨E.Q,0,none⟩),.string x] w fun e w' => e = .returned (.tuple #[]) ∧ Turned w w' (fun b => b = E.Q) ∧ RBad w' E c p:=rwant_any (r:=.no c p) x h
theorem rname_bad : Calls Tryz.prog 95 #[.pointer (some ⟨E.Q,0,none⟩)] w fun e w' => e = .returned (.string ByteArray.empty) ∧ Turned w w' (fun b => b = E.Q) ∧ RBad w' E c p:=rname_any (r:=.no c p) h
theorem rbegins_bad (x : ByteArray) : Calls Tryz.prog 111 #[.pointer (some ⟨E.Q,0,none⟩),.string x] w fun e w' => e = .returned (.bool false) ∧ Turned w w' (fun b => b = E.Q) ∧ RBad w' E c p:=rbegins_no (r:=.no c p) h rfl
theorem rnode_bad (k : Int) (t : ByteArray) (a : Option Addr) (len cap : Nat) : Calls Tryz.prog 71 #[.pointer (some ⟨E.Q,0,none⟩),.int .i64 k,.string t,.slice a len cap] w fun e w' =>
  e = .returned (.agg #[.int .i64 k,.string t,.int .i64 0,.slice a len cap]) ∧ Turned w w' (fun b => b = E.Q) ∧ RBad w' E c p:=(rnode_any (r:=.no c p) k t a len cap h).mono fun e w' ⟨h1,h2,h3⟩ => ⟨h1,h2,h3 nd0⟩
end
/-- A result's box, filled, behind all that was done. -/
theorem box_end {w W : World} {E : Env} {r : Res} {R : Nat} {u0 u1 u2 u3 : Value} (h0 : EnvOk w E) (hQ : E.Q < w.heap.size) (ht : Turned w W (fun b => b = E.Q)) (hs : RAt W E r) (hb : Blk W R 24 #[u0,u1,u2,u3]) (hR : w.heap.size ≤ R) (v0 v1 v2 v3 : Value) :
  Turned w ((((W.setCell ⟨R,0,none⟩ v0).setCell ⟨R,1,none⟩ v1).setCell ⟨R,2,none⟩ v2).setCell ⟨R,3,none⟩ v3) (fun b => b = E.Q) ∧ Blk ((((W.setCell ⟨R,0,none⟩ v0).setCell ⟨R,1,none⟩ v1).setCell ⟨R,2,none⟩ v2).setCell ⟨R,3,none⟩ v3) R 24 #[v0,v1,v2,v3] ∧
  RAt ((((W.setCell ⟨R,0,none⟩ v0).setCell ⟨R,1,none⟩ v1).setCell ⟨R,2,none⟩ v2).setCell ⟨R,3,none⟩ v3) E r ∧ W.heap.size ≤ ((((W.setCell ⟨R,0,none⟩ v0).setCell ⟨R,1,none⟩ v1).setCell ⟨R,2,none⟩ v2).setCell ⟨R,3,none⟩ v3).heap.size ∧
  (∀ k,k ≠ R → ((((W.setCell ⟨R,0,none⟩ v0).setCell ⟨R,1,none⟩ v1).setCell ⟨R,2,none⟩ v2).setCell ⟨R,3,none⟩ v3).heap[k]? = W.heap[k]?):=by
 obtain ⟨h1,h2,h3,h4⟩:=box_node ht hb hR v0 v1 v2 v3
 exact ⟨h1,h2,hs.far h0 hR hQ h3 h4,Nat.le_of_eq h4.symm,h3⟩
theorem tx_class : tx "class" = ⟨#[99,108,97,115,115]⟩:=by decide +kernel
theorem tx_main : tx "main" = ⟨#[109,97,105,110]⟩:=by decide +kernel
theorem tx_col : tx ":" = ⟨#[58]⟩:=by decide +kernel
theorem tx_slot : tx "slot" = ⟨#[115,108,111,116]⟩:=by decide +kernel
theorem tx_semi : tx ";" = ⟨#[59]⟩:=by decide +kernel
theorem tx_to : tx "to" = ⟨#[116,111]⟩:=by decide +kernel
theorem tx_com : tx "," = ⟨#[44]⟩:=by decide +kernel
theorem tx_var : tx "var" = ⟨#[118,97,114]⟩:=by decide +kernel
theorem tx_eq : tx "=" = ⟨#[61]⟩:=by decide +kernel
theorem tx_if : tx "if" = ⟨#[105,102]⟩:=by decide +kernel
theorem tx_else : tx "else" = ⟨#[101,108,115,101]⟩:=by decide +kernel
theorem tx_while : tx "while" = ⟨#[119,104,105,108,101]⟩:=by decide +kernel
theorem tx_return : tx "return" = ⟨#[114,101,116,117,114,110]⟩:=by decide +kernel
theorem tx_print : tx "print" = ⟨#[112,114,105,110,116]⟩:=by decide +kernel
theorem tx_fork : tx "fork" = ⟨#[102,111,114,107]⟩:=by decide +kernel
theorem tx_wait : tx "wait" = ⟨#[119,97,105,116]⟩:=by decide +kernel
theorem tx_signal : tx "signal" = ⟨#[115,105,103,110,97,108]⟩:=by decide +kernel
theorem tx_swap : tx "swap" = ⟨#[115,119,97,112]⟩:=by decide +kernel
theorem tx_lt : tx "<" = ⟨#[60]⟩:=by decide +kernel
theorem tx_same : tx "==" = ⟨#[61,61]⟩:=by decide +kernel
theorem tx_add : tx "+" = ⟨#[43]⟩:=by decide +kernel
theorem tx_sub : tx "-" = ⟨#[45]⟩:=by decide +kernel
theorem tx_mul : tx "*" = ⟨#[42]⟩:=by decide +kernel
theorem tx_not : tx "!" = ⟨#[33]⟩:=by decide +kernel
theorem tx_dot : tx "." = ⟨#[46]⟩:=by decide +kernel
theorem tx_knil : tx "nil" = ⟨#[110,105,108]⟩:=by decide +kernel
theorem tx_nil : tx "" = ⟨#[]⟩:=by decide +kernel
theorem tx_self : tx "self" = ⟨#[115,101,108,102]⟩:=by decide +kernel
theorem tx_gate : tx "gate" = ⟨#[103,97,116,101]⟩:=by decide +kernel
theorem tx_new : tx "new" = ⟨#[110,101,119]⟩:=by decide +kernel
theorem res_id (r : Res) : (r.bind fun n s => .ok n s) = r:=by cases r <;> rfl
theorem name_is {L : List Tok} {e : Nat} {s : PS} {k : Nd → PS → Res} (h : isP L 1 s = true) : ((nameP L e s).bind k) = k (ndT (textP L s)) (stepP s):=by unfold nameP;rw [if_pos h];rfl
theorem REnd.two {E : Env} {r : Res} {w w' : World} {e : Ending} (h : REnd E r w e w') (ho : r ≠ .out) :
  (∃ n s x,r = .ok n s ∧ e = .returned (nvA x) ∧ Turned w w' (fun b => b = E.Q) ∧ RGood w' E s ∧ IsN w' (fun b => w.heap.size ≤ b) x n) ∨ (∃ c p x,r = .no c p ∧ e = .returned (nvA x) ∧ Turned w w' (fun b => b = E.Q) ∧ RBad w' E c p):=by
 obtain ⟨x,h1,h2,h3,h4⟩:=h
 cases r with
 | ok n s => exact .inl ⟨n,s,x,rfl,h1,h2,h3,h4 n s rfl⟩
 | no c p => exact .inr ⟨c,p,x,rfl,h1,h2,h3⟩
 | out => exact absurd rfl ho
section
variable {w : World} {E : Env} {s : PS} (h : RGood w E s)
include h
theorem rwant_two (x : ByteArray) : Calls Tryz.prog 69 #[.pointer (some ⟨E.Q,0,none⟩),.string x] w fun e w' => e = .returned (.tuple #[]) ∧ Turned w w' (fun b => b = E.Q) ∧ ((∃ n s',wantP E.L E.e x s = .ok n s' ∧ RGood w' E s') ∨ (∃ c p,wantP E.L E.e x s = .no c p ∧ RBad w' E c p)) :=
 (rwant_any (r:=.ok nd0 s) x h).mono fun e w' ⟨h1,h2,h3⟩ => ⟨h1,h2,by
  have h3 : RAt w' E (wantP E.L E.e x s):=h3
  cases hr : wantP E.L E.e x s with
  | ok n s' => rw [hr] at h3;exact .inl ⟨n,s',rfl,h3⟩
  | no c p => rw [hr] at h3;exact .inr ⟨c,p,rfl,h3⟩
  | out => rw [hr] at h3;exact h3.elim⟩
theorem rname_two : Calls Tryz.prog 95 #[.pointer (some ⟨E.Q,0,none⟩)] w fun e w' => Turned w w' (fun b => b = E.Q) ∧ ((∃ t s',nameP E.L E.e s = .ok t s' ∧ e = .returned (.string t.text) ∧ RGood w' E s') ∨ (∃ c p,nameP E.L E.e s = .no c p ∧ e = .returned (.string ByteArray.empty) ∧ RBad w' E c p)) :=
 (rname_any (r:=.ok nd0 s) h).mono fun e w' ⟨h1,h2,h3⟩ => ⟨h2,by
  have h3 : RAt w' E (nameP E.L E.e s):=h3
  have h1 : e = .returned (.string (if isP E.L 1 s = true then textP E.L s else ByteArray.empty)):=h1
  unfold nameP at h3 ⊢
  by_cases hs : isP E.L 1 s = true
  ·rw [if_pos hs] at h3 h1 ⊢
   exact .inl ⟨_,_,rfl,h1,h3⟩
  ·rw [if_neg hs] at h3 h1 ⊢
   exact .inr ⟨_,_,rfl,h1,h3⟩⟩
theorem rsees_is {x : ByteArray} {b : Bool} (hs : seesP E.L x s = b) : Calls Tryz.prog 67 #[.pointer (some ⟨E.Q,0,none⟩),.string x] w fun e w' => e = .returned (.bool b) ∧ Below w.heap.size w w':=by rw [← hs];exact rsees_good x h
theorem ris_is {k : Int} {b : Bool} (hs : isP E.L k s = b) : Calls Tryz.prog 110 #[.pointer (some ⟨E.Q,0,none⟩),.int .i64 k] w fun e w' => e = .returned (.bool b) ∧ Below w.heap.size w w':=by rw [← hs];exact ris_good k h
theorem rbegins_y {x : ByteArray} (hs : seesP E.L x s = true) : Calls Tryz.prog 111 #[.pointer (some ⟨E.Q,0,none⟩),.string x] w fun e w' => e = .returned (.bool true) ∧ Turned w w' (fun b => b = E.Q) ∧ RGood w' E (stepP s):=rbegins_yes (r:=.ok nd0 s) h hs
theorem rbegins_n {x : ByteArray} (hs : seesP E.L x s = false) : Calls Tryz.prog 111 #[.pointer (some ⟨E.Q,0,none⟩),.string x] w fun e w' => e = .returned (.bool false) ∧ Turned w w' (fun b => b = E.Q) ∧ RGood w' E s:=rbegins_no (r:=.ok nd0 s) h hs
end
/-- How a command ends: well; given up. -/
structure EndG (w : World) (E : Env) (s : PS) (x : NV) (n : Nd) (W : World) : Prop where
 turned : Turned w W (fun b => b = E.Q)
 blk : Blk W w.heap.size 24 #[.int .i64 x.kind,.string x.text,.int .i64 x.num,.slice x.a x.len x.cap]
 good : RGood W E s
 is_ : IsN W (fun b => w.heap.size ≤ b) x n
structure EndB (w : World) (E : Env) (c : Int) (p : Nat) (x : NV) (W : World) : Prop where
 turned : Turned w W (fun b => b = E.Q)
 blk : Blk W w.heap.size 24 #[.int .i64 x.kind,.string x.text,.int .i64 x.num,.slice x.a x.len x.cap]
 bad : RBad W E c p
theorem EndG.done {w W : World} {E : Env} {s : PS} {x : NV} {n : Nd} {rr : Res} (h : EndG w E s x n W) (hr : rr = .ok n s) : REnd E rr w (.returned (nvA x)) W:=by
 subst hr
 exact ⟨x,rfl,h.turned,h.good,fun n' s' e => by cases e;exact h.is_⟩
theorem EndB.done {w W : World} {E : Env} {c : Int} {p : Nat} {x : NV} {rr : Res} (h : EndB w E c p x W) (hr : rr = .no c p) : REnd E rr w (.returned (nvA x)) W:=by
 subst hr
 exact ⟨x,rfl,h.turned,h.bad,fun n' s' e => by cases e⟩
theorem end_good {w W : World} {E : Env} {s : PS} {u0 u1 u2 u3 : Value} {x : NV} {n : Nd} {S : Nat → Prop} (h0 : EnvOk w E) (hQ : E.Q < w.heap.size) (ht : Turned w W (fun b => b = E.Q)) (hs : RGood W E s) (hb : Blk W w.heap.size 24 #[u0,u1,u2,u3]) (hx : IsN W S x n) (hS : ∀ b,S b → w.heap.size < b) :
  EndG w E s x n ((((W.setCell ⟨w.heap.size,0,none⟩ (.int .i64 x.kind)).setCell ⟨w.heap.size,1,none⟩ (.string x.text)).setCell ⟨w.heap.size,2,none⟩ (.int .i64 x.num)).setCell ⟨w.heap.size,3,none⟩ (.slice x.a x.len x.cap)):=by
 obtain ⟨h1,h2,h3,h4,h5⟩:=box_end (r:=.ok nd0 s) h0 hQ ht hs hb (Nat.le_refl _) (.int .i64 x.kind) (.string x.text) (.int .i64 x.num) (.slice x.a x.len x.cap)
 exact ⟨h1,h2,h3,hx.kept h4 (fun b _ hb => h5 b (by have:=hS b hb;omega)) (fun b _ hb => Nat.le_of_lt (hS b hb))⟩
theorem end_bad {w W : World} {E : Env} {c : Int} {p : Nat} {u0 u1 u2 u3 : Value} {x : NV} (h0 : EnvOk w E) (hQ : E.Q < w.heap.size) (ht : Turned w W (fun b => b = E.Q)) (hs : RBad W E c p) (hb : Blk W w.heap.size 24 #[u0,u1,u2,u3]) :
  EndB w E c p x ((((W.setCell ⟨w.heap.size,0,none⟩ (.int .i64 x.kind)).setCell ⟨w.heap.size,1,none⟩ (.string x.text)).setCell ⟨w.heap.size,2,none⟩ (.int .i64 x.num)).setCell ⟨w.heap.size,3,none⟩ (.slice x.a x.len x.cap)):=by
 obtain ⟨h1,h2,h3,h4,h5⟩:=box_end (r:=.no c p) h0 hQ ht hs hb (Nat.le_refl _) (.int .i64 x.kind) (.string x.text) (.int .i64 x.num) (.slice x.a x.len x.cap)
 exact ⟨h1,h2,h3⟩
set_option maxRecDepth 100000 in
theorem rprimary_bad {w : World} {E : Env} {c : Int} {p : Nat} (h : RBad w E c p) : Calls Tryz.prog 143 #[.pointer (some ⟨E.Q,0,none⟩)] w (REnd E (.no c p) w):=by
 have hE : RAt w E (.no c p):=h
 have HE:=Lib.hid hE.env
 have HQ:=Lib.hid hE.old
 have NE : Hid (¬ w.heap.size = E.Q):=by have:=hE.old;show ¬ _;omega
 obtain ⟨o9,ho9⟩:=oZ
 have hb0:=bl w o9
 subst ho9
 have HS:=Lib.hid (h.below hb0)
 have HT:=Lib.hid (Turned.of_below (fun b => b = E.Q) hb0)
 have HX:=zB w
 clear h hE hb0
 go_enter Tryz.func143,Tryz.ntmps143
 go_wp2_with (first
  | (go_at_call 110;refine (ris_bad _ HS.out).mono ?_;rintro e w9 ⟨rfl,hb9⟩;have HX:=Lib.hid (HX.out.below hb9 HX.out.lt);have HT:=Lib.hid (HT.out.then (Turned.of_below _ hb9));have HS:=Lib.hid (HS.out.below hb9);clear hb9)
  | (go_at_call 111;refine (rbegins_bad HS.out _).mono ?_;rintro e w9 ⟨rfl,ht9,hs9⟩;have HX:=Lib.hid (ht9.blk HX.out NE.out);have HT:=Lib.hid (HT.out.then ht9);have HS:=Lib.hid hs9;clear ht9 hs9)
  | (go_at_call 69;refine (rwant_bad HS.out _).mono ?_;rintro e w9 ⟨rfl,ht9,hs9⟩;have HX:=Lib.hid (ht9.blk HX.out NE.out);have HT:=Lib.hid (HT.out.then ht9);have HS:=Lib.hid hs9;obtain ⟨u0,u1,u2,u3,g0,g1,g2,g3,gl⟩:=HX.out.f4;obtain ⟨i,d,m,hq⟩:=hs9.blk;obtain ⟨x0,x1,x2,x3,x4,x5,x6,-⟩:=hq.f7;have hc:=hs9.ne;clear ht9 hs9 hq))
 have hbx:=box_end HE.out HQ.out HT.out (r:=.no c p) HS.out HX.out (Nat.le_refl _) (.int .i64 0) (.string ⟨#[]⟩) (.int .i64 0) (.slice none 0 0)
 refine open_post (fun W => Turned w W (fun b => b = E.Q) ∧ Blk W w.heap.size 24 #[.int .i64 0,.string ⟨#[]⟩,.int .i64 0,.slice none 0 0] ∧ RAt W E (.no c p)) ⟨hbx.1,hbx.2.1,hbx.2.2.1⟩ ?_
 rintro W ⟨b1,b2,b3⟩
 obtain ⟨v0,v1,v2,v3,-⟩:=b2.f4
 exact bodyPost_ret (v:=.agg #[.int .i64 0,.string ⟨#[]⟩,.int .i64 0,.slice none 0 0]) (by simp [results,Tryz.results143,go_sem,v0,v1,v2,v3]) rfl ⟨⟨0,⟨#[]⟩,0,none,0,0⟩,rfl,b1,b3,fun n s h => by cases h⟩
end Go.Proofs.YtbpldfmmlgkfnaaGreatDoor
