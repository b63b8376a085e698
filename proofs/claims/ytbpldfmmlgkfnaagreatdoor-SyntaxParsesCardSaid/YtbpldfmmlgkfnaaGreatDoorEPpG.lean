/- The program's parser: what goes over a map of two signs; unary. Conditions: what lower levels do. -/
import Derived.Test.YtbpldfmmlgkfnaaGreatDoorEMemZ
import Derived.Test.YtbpldfmmlgkfnaaGreatDoorEPpE
import Derived.Test.YtbpldfmmlgkfnaaGreatDoorEPpM
namespace Go.Proofs.YtbpldfmmlgkfnaaGreatDoor
open Go.RowKit Go.Maps Go.MapKept Go.ChangeMaps
set_option linter.unusedVariables false
/-- The world stands on: block r alone turned, which is new. -/
theorem Turned.then_new {w0 w w' : World} {S : Nat → Prop} {r : Nat} (h : Turned w0 w S) (h2 : Turned w w' (fun b => b = r)) (hr : w0.heap.size ≤ r) : Turned w0 w' S :=
 ⟨h2.os.trans h.os,h2.tape.trans h.tape,h2.output.trans h.output,Nat.le_trans h.size h2.size,fun k hk hs => (h2.block k (Nat.lt_of_lt_of_le hk h.size) (fun e => by have e2 : k = r:=e;omega)).trans (h.block k hk hs)⟩
/-- A map of two keys laid, a range over it begun. -/
theorem map_two (w0 : World) {M : Nat} (hM : w0.heap.size = M) (k0 : ByteArray) (v0 : Int) (k1 : ByteArray) (v1 : Int) (h0 : k0.size ≤ 4000) (h1 : k1.size ≤ 4000) (hne : k0 ≠ k1) : ∃ W1 W2 W3 W4 r,(Instr.makeMap 49 none).run Tryz.prog w0 = .ok (.map (some M)) W1 ∧
  (Instr.mapUpdate 49 (.map (some M)) (.string k0) (.int .i64 v0)).run Tryz.prog W1 = .ok () W2 ∧ (Instr.mapUpdate 49 (.map (some M)) (.string k1) (.int .i64 v1)).run Tryz.prog W2 = .ok () W3 ∧
  (Instr.range 49 (.map (some M))).run Tryz.prog W3 = .ok (.pointer (some ⟨r,0,none⟩)) W4 ∧ IterAt W4 M r k0 v0 k1 v1 false false ∧ Below w0.heap.size w0 W4 ∧ M < r ∧ r < W4.heap.size ∧
  W3.heap[M]? = some (.map #[ent k0 v0 0,ent k1 v1 1] 2) ∧ Below w0.heap.size w0 W3 ∧ M < W3.heap.size:=by
 subst hM
 have g1 : (w0.alloc (.map #[] 0)).heap[w0.heap.size]? = some (.map #[] 0):=heap_alloc_new w0 _
 have i0:=ins_zero v0 h0 g1
 have s1 : (setBlock (w0.alloc (.map #[] 0)) w0.heap.size (.map #[ent k0 v0 0] 1)).heap[w0.heap.size]? = some (.map #[ent k0 v0 0] 1) ∧ ∀ k,k ≠ w0.heap.size → (setBlock (w0.alloc (.map #[] 0)) w0.heap.size (.map #[ent k0 v0 0] 1)).heap[k]? = (w0.alloc (.map #[] 0)).heap[k]?:=heap_set g1
 have i1:=ins_one v1 h1 h0 hne s1.1
 have s2 : (setBlock (setBlock (w0.alloc (.map #[] 0)) w0.heap.size (.map #[ent k0 v0 0] 1)) w0.heap.size (.map #[ent k0 v0 0,ent k1 v1 1] 2)).heap[w0.heap.size]? = some (.map #[ent k0 v0 0,ent k1 v1 1] 2) ∧ ∀ k,k ≠ w0.heap.size → (setBlock (setBlock (w0.alloc (.map #[] 0)) w0.heap.size (.map #[ent k0 v0 0] 1)) w0.heap.size (.map #[ent k0 v0 0,ent k1 v1 1] 2)).heap[k]? = (setBlock (w0.alloc (.map #[] 0)) w0.heap.size (.map #[ent k0 v0 0] 1)).heap[k]?:=heap_set s1.1
 obtain ⟨i2,i3⟩:=IterAt.begin s2.1
 have z3 : (setBlock (setBlock (w0.alloc (.map #[] 0)) w0.heap.size (.map #[ent k0 v0 0] 1)) w0.heap.size (.map #[ent k0 v0 0,ent k1 v1 1] 2)).heap.size = w0.heap.size + 1:=by
  show ((_ : Array Obj).setIfInBounds _ _).size = _
  rw [Array.size_setIfInBounds]
  show ((_ : Array Obj).setIfInBounds _ _).size = _
  rw [Array.size_setIfInBounds]
  exact World.size_alloc _ _
 have b3 : Below w0.heap.size w0 (setBlock (setBlock (w0.alloc (.map #[] 0)) w0.heap.size (.map #[ent k0 v0 0] 1)) w0.heap.size (.map #[ent k0 v0 0,ent k1 v1 1] 2)) :=
  ⟨rfl,rfl,rfl,by rw [z3];exact Nat.le_succ _,fun k hk => ((s2.2 k (by omega)).trans (s1.2 k (by omega))).trans (Below.heap_alloc w0 _ k hk)⟩
 refine ⟨_,_,_,_,_,run_makeMap ..,i0,i1,i2,i3,b3.alloc (by rw [z3];exact Nat.le_succ _) _,by rw [z3];exact Nat.lt_succ_self _,by rw [World.size_alloc];exact Nat.lt_succ_self _,s2.1,b3,by rw [z3];exact Nat.lt_succ_self _⟩
section
variable {E : Env} {rr : Res} {w w' : World} {tv uv : ByteArray} {xs : List NV} {S S' : Nat → Prop} {lo : Nat} {x : NV}
/-- The parser stands at a token that is seen. -/
def PTG (E : Env) (rr : Res) (w : World) (K : Nd → Nd → List Nd → PS → Res) (tv uv : ByteArray) (xs : List NV) (S : Nat → Prop) (lo : Nat) : Prop :=
 ∃ t u ls s,rr = K t u ls s ∧ PAt w E s ∧ tv = t.text ∧ uv = u.text ∧ AllN w S xs ls ∧ lo ≤ s.i ∧ s.i < E.L.length
theorem pt_seesG {A B : Nd → Nd → List Nd → PS → Res} (hS : ∀ b,S b → ¬ b = E.Q) (y : ByteArray) (h : PT E rr w (fun t u ls s => if seesP E.L y s = true then A t u ls s else B t u ls s) tv uv xs S lo) :
  Calls Tryz.prog 88 #[.pointer (some ⟨E.Q,0,none⟩),.string y] w fun e w' => ∃ b,e = .returned (.bool b) ∧ Turned w w' (fun b => b = E.Q) ∧ (b = true → PTG E rr w' A tv uv xs S lo) ∧ (b = false → PT E rr w' B tv uv xs S lo):=by
 obtain ⟨t,u,ls,s,h1,h2,h3,h4,h5,hl⟩:=h
 dsimp only at h1
 cases hb : seesP E.L y s with
 | true =>
  rw [if_pos hb] at h1
  refine (psees_any y h2).mono fun e w' ⟨he,hbl⟩ => ⟨true,by rw [he,hb],Turned.of_below _ hbl,fun _ => ⟨t,u,ls,s,h1,h2.below hbl,h3,h4,h5.turned (Turned.of_below (fun b => b = E.Q) hbl) hS,hl,sees_lt hb⟩,fun h => by cases h⟩
 | false =>
  rw [if_neg (by rw [hb];decide)] at h1
  refine (psees_any y h2).mono fun e w' ⟨he,hbl⟩ => ⟨false,by rw [he,hb],Turned.of_below _ hbl,(fun h => by cases h),fun _ => ⟨t,u,ls,s,h1,h2.below hbl,h3,h4,h5.turned (Turned.of_below (fun b => b = E.Q) hbl) hS,hl⟩⟩
theorem pt_next {K : Nd → Nd → List Nd → PS → Res} (hS : ∀ b,S b → ¬ b = E.Q) (h : PTG E rr w (fun t u ls s => K t u ls (stepP s)) tv uv xs S lo) :
  Calls Tryz.prog 89 #[.pointer (some ⟨E.Q,0,none⟩)] w fun e w' => ∃ y,e = .returned (.string y) ∧ Turned w w' (fun b => b = E.Q) ∧ PT E rr w' K tv uv xs S (lo + 1):=by
 obtain ⟨t,u,ls,s,h1,h2,h3,h4,h5,hl,hlt⟩:=h
 exact (pnext_any h2 hlt).mono fun e w' ⟨he,ht,hs⟩ => ⟨_,he,ht,t,u,ls,_,h1,hs,h3,h4,h5.turned ht hS,Nat.succ_le_succ hl⟩
theorem PT.iter {K : Nd → Nd → List Nd → PS → Res} {r : Nat} (h : PT E rr w K tv uv [] S lo) (h2 : Turned w w' (fun b => b = r)) (hr : E.Q < r) : PT E rr w' K tv uv [] S lo:=by
 obtain ⟨t,u,ls,s,h1,hs,h3,h4,h5,hl⟩:=h
 obtain rfl : ls = []:=List.eq_nil_of_length_eq_zero h5.1.symm
 exact ⟨t,u,[],s,h1,hs.kept h2.size (fun k hk => h2.block k (Nat.lt_of_le_of_lt hk hs.old) (fun e => by have e2 : k = r:=e;omega)),h3,h4,AllN.nil _ _,hl⟩
end
/-- What is left to ask of two signs; which have been asked. -/
def KU (E : Env) (k0 k1 : ByteArray) (A0 A1 C : PS → Res) (d0 d1 : Bool) (_ _ : Nd) (_ : List Nd) (s : PS) : Res :=
 if (!d0 && seesP E.L k0 s) = true then A0 (stepP s) else if (!d1 && seesP E.L k1 s) = true then A1 (stepP s) else C s
theorem sees_excl {L : List Tok} {k0 k1 : ByteArray} {s : PS} (hne : k0.toList ≠ k1.toList) (h : seesP L k1 s = true) : seesP L k0 s = false:=by
 cases h0 : seesP L k0 s with
 | false => rfl
 | true =>
  exfalso
  unfold seesP sameT at h h0
  cases e : L[s.i]? with
  | none => rw [e] at h;cases h
  | some t =>
   rw [e] at h h0
   simp only [Bool.and_eq_true,beq_iff_eq] at h h0
   exact hne (h0.1.symm.trans h.1)
theorem ku_first {E : Env} {k0 k1 : ByteArray} {A0 A1 C : PS → Res} {d1 : Bool} (t u : Nd) (ls : List Nd) (s : PS) : KU E k0 k1 A0 A1 C false d1 t u ls s = if seesP E.L k0 s = true then A0 (stepP s) else KU E k0 k1 A0 A1 C true d1 t u ls s:=by
 unfold KU
 simp
theorem ku_second {E : Env} {k0 k1 : ByteArray} {A0 A1 C : PS → Res} {d0 : Bool} (hne : k0.toList ≠ k1.toList) (t u : Nd) (ls : List Nd) (s : PS) : KU E k0 k1 A0 A1 C d0 false t u ls s = if seesP E.L k1 s = true then A1 (stepP s) else KU E k0 k1 A0 A1 C d0 true t u ls s:=by
 unfold KU
 by_cases h : seesP E.L k1 s = true
 ·rw [if_pos h,sees_excl hne h];simp [h]
 ·rw [if_neg h]
  have h2 : seesP E.L k1 s = false:=by simpa using h
  simp [h2]
theorem ku_end {E : Env} {k0 k1 : ByteArray} {A0 A1 C : PS → Res} (t u : Nd) (ls : List Nd) (s : PS) : KU E k0 k1 A0 A1 C true true t u ls s = C s:=by
 unfold KU;simp
def uOne (E : Env) (f : Nat) (kd : Int) (s : PS) : Res:=(run E.L E.e f .unary s).bind fun k s => .ok (.mk kd ⟨#[]⟩ 0 [k]) ⟨s.i,s.dep,s.many + 1⟩
theorem unary_eq (E : Env) (f : Nat) (s : PS) : run E.L E.e (f + 1) .unary s = KU E ⟨#[45]⟩ ⟨#[33]⟩ (uOne E f 23) (uOne E f 24) (fun s => run E.L E.e f .call s) false false nd0 nd0 [] s:=by
 simp only [run,nodeP,tx_sub,tx_not,tx_nil]
 unfold KU uOne
 simp only [Bool.not_false,Bool.true_and]
/-- What the range of unary holds. -/
def UInv (w : World) (E : Env) (rr : Res) (M r f gk : Nat) (wr : World) : Prop :=
 ∃ d0 d1 : Bool,IterAt wr M r ⟨#[45]⟩ 23 ⟨#[33]⟩ 24 d0 d1 ∧ (if d0 then 0 else 1) + (if d1 then 0 else 1) ≤ gk ∧ Turned w wr (fun b => b = E.Q) ∧ w.heap.size < wr.heap.size ∧ Blk wr w.heap.size 24 #[.int .i64 0,.string ⟨#[]⟩,.int .i64 0,.slice none 0 0] ∧ r < wr.heap.size ∧
  PT E rr wr (KU E ⟨#[45]⟩ ⟨#[33]⟩ (uOne E f 23) (uOne E f 24) (fun s => run E.L E.e f .call s) d0 d1) ByteArray.empty ByteArray.empty [] (SR w (.slice none 0 0)) 0

set_option maxRecDepth 100000 in
set_option maxHeartbeats 3200000 in
theorem punary_any {f : Nat} (ihU : PCall f .unary 129) (ihC : PCall f .call 135) {E : Env} {s : PS} {w : World} (h : PAt w E s) (hout : run E.L E.e (f + 1) .unary s ≠ .out) : Calls Tryz.prog 129 #[.pointer (some ⟨E.Q,0,none⟩)] w (PEnd E (run E.L E.e (f + 1) .unary s) w):=by
 have HO0:=Lib.hid hout
 generalize hrr : run E.L E.e (f + 1) .unary s = rr at *
 have hr : rr = (KU E ⟨#[45]⟩ ⟨#[33]⟩ (uOne E f 23) (uOne E f 24) (fun s => run E.L E.e f .call s) false false) nd0 nd0 [] s:=by rw [← hrr];exact unary_eq E f s
 clear hrr hout
 have HQ:=Lib.hid h.old
 have NE : Hid (¬ w.heap.size = E.Q):=by have:=h.old;show ¬ _;omega
 have hfew:=h.few
 obtain ⟨o9,ho9⟩:=oZ
 have hb0:=bl w o9
 have HT:=Lib.hid (Turned.of_below (fun b => b = E.Q) hb0)
 have HX:=zB w
 have HZ:=zN w o9
 have HO:=Lib.hid (OwnN.nil (w.alloc o9) (w.heap.size + 1))
 subst ho9
 have HST : Hid (PT E rr (w.alloc (.cells #[.int .i64 0,.string ⟨#[]⟩,.int .i64 0,.slice none 0 0] 24)) (KU E ⟨#[45]⟩ ⟨#[33]⟩ (uOne E f 23) (uOne E f 24) (fun s => run E.L E.e f .call s) false false) ByteArray.empty ByteArray.empty [] (SR w (.slice none 0 0)) 0):=PT.below (K:=(KU E ⟨#[45]⟩ ⟨#[33]⟩ (uOne E f 23) (uOne E f 24) (fun s => run E.L E.e f .call s) false false)) ⟨nd0,nd0,[],s,hr,h,rfl,rfl,AllN.nil _ _,Nat.zero_le _⟩ hb0
 clear h hb0 hr
 go_enter Tryz.func129,Tryz.ntmps129
 obtain ⟨W1,W2,W3,W4,r,hmk,hi0,hi1,hrg,hit,hbl,hMr,hrz,-,-,-⟩:=map_two (w.alloc (.cells #[.int .i64 0,.string ⟨#[]⟩,.int .i64 0,.slice none 0 0] 24)) (M:=w.heap.size + 1) (World.size_alloc _ _) ⟨#[45]⟩ 23 ⟨#[33]⟩ 24 (by decide) (by decide) (by decide)
 replace HX:=Lib.hid (HX.out.below hbl HX.out.lt)
 replace HT:=Lib.hid (HT.out.then (Turned.of_below _ hbl))
 replace HZ:=Lib.hid (Nat.lt_of_lt_of_le HZ.out hbl.size)
 replace HST:=Lib.hid (HST.out.below hbl)
 have HIT:=Lib.hid hit
 have HMR:=Lib.hid hMr
 have HRZ:=Lib.hid hrz
 clear hit hbl HO hMr hrz
 go_wp2_with fail
 clear hmk hi0 hi1 hrg
 go_loopg [3,4] 2 (fun gk _ _ wr => UInv w E rr (w.heap.size + 1) r f gk wr)
 case atStart => exact ⟨false,false,HIT.out,by decide,HT.out,HZ.out,HX.out,HRZ.out,HST.out⟩
 case round =>
  clear HIT HT HZ HX HST HRZ
  obtain ⟨d0,d1,hit,hgk,ht,hz,hx,hrz,hst⟩:=hrel
  have HT:=Lib.hid ht
  have HZ:=Lib.hid hz
  have HX:=Lib.hid hx
  have HST:=Lib.hid hst
  have HRZ:=Lib.hid hrz
  have HO:=Lib.hid (OwnN.nil wr (w.heap.size + 1))
  clear ht hz hx hst hrz
  have hq9:=HQ.out
  have hm9:=HMR.out
  have NR : Hid (¬ r = E.Q):=by show ¬ _;omega
  have NM : Hid (¬ w.heap.size + 1 = E.Q):=by show ¬ _;omega
  clear hq9 hm9
  rcases hit.next 0 with ⟨rfl,rfl,hnx⟩ | ⟨rfl,w5,hnx,hit2,hen,htr⟩ | ⟨rfl,w5,hnx,hit2,hen,htr⟩
  ·skip
   have HST2 : Hid (PT E rr wr (fun (_ _ : Nd) (_ : List Nd) s => (run E.L E.e f .call s).bind fun n s => (fun (_ _ : Nd) (_ : List Nd) n s => Res.ok n s) nd0 nd0 [] n s) _ _ [] _ 0):=Lib.hid (HST.out.congrL (fun t u ls s _ => (ku_end t u ls s).trans (by cases run E.L E.e f .call s <;> rfl)))
   replace HST:=HST2
   clear HST2 hit
   go_wp2_with fail
   clear hnx
   refine (pt_call (sr_ne HQ.out) ihC HO0.out (fun b hb => ⟨Nat.lt_of_lt_of_le HZ.out hb,fun e => Nat.lt_irrefl _ (Nat.lt_of_lt_of_le (HO.out.lt _ e).2 hb)⟩) HST.out).mono ?_
   rintro e w1 ⟨ht9,⟨v9,rfl,x_n,rfl,hst9⟩ | ⟨c9,p9,hr9,hc9,rfl⟩⟩
   rotate_left
   ·exact ⟨rfl,HT.out.then ht9,.inr ⟨_,_,hr9,hc9,rfl⟩⟩
   replace HX:=bT HX ht9 NE
   replace HO:=Lib.hid (HO.out.turned ht9 (row_ne HO.out HQ.out))
   replace HZ:=zT HZ ht9
   replace HT:=tT HT ht9
   replace HST:=Lib.hid hst9
   clear ht9 hst9
   obtain ⟨u0,u1,u2,u3,g0,g1,g2,g3,gl⟩:=HX.out.f4
   go_wp2_with fail
   clear u0 u1 u2 u3 g0 g1 g2 g3 gl
   have HEND:=Lib.hid (pt_end (x:=x_n) HQ.out HT.out HX.out (fun b h => h.1) HST.out rfl)
   refine open_post (fun W => Blk W w.heap.size 24 #[.int .i64 x_n.kind,.string x_n.text,.int .i64 x_n.num,.slice x_n.a x_n.len x_n.cap] ∧ PEnd E rr w (.returned (nvA x_n)) W) HEND.out ?_
   rintro W ⟨hb,hE⟩
   obtain ⟨v0,v1,v2,v3,-⟩:=hb.f4
   exact bodyPost_ret (v:=nvA x_n) (by simp [results,Tryz.results129,go_sem,nvA,v0,v1,v2,v3]) rfl hE
  ·skip
   have HIT:=Lib.hid hit2
   have HX2:=Lib.hid (htr.blk HX.out (fun e => by have e2 : w.heap.size = r:=e;have h1:=HMR.out;omega))
   replace HX:=HX2
   clear HX2
   replace HT:=Lib.hid (HT.out.then_new htr (by have h1:=HMR.out;omega))
   replace HZ:=zT HZ htr
   replace HRZ:=Lib.hid (Nat.lt_of_lt_of_le HRZ.out htr.size)
   replace HST:=Lib.hid (HST.out.iter htr (by have h1:=HMR.out;have h2:=HQ.out;omega))
   clear HO
   have HO:=Lib.hid (OwnN.nil w5 (w.heap.size + 1))
   have HGK:=Lib.hid hgk
   clear hit2 htr hit hgk
   have HST2 : Hid (PT E rr w5 (fun t u ls s => if seesP E.L ⟨#[45]⟩ s = true then (fun (_ _ : Nd) (_ : List Nd) s => uOne E f 23 (stepP s)) t u ls s else (KU E ⟨#[45]⟩ ⟨#[33]⟩ (uOne E f 23) (uOne E f 24) (fun s => run E.L E.e f .call s) true d1) t u ls s) _ _ [] _ 0):=Lib.hid (HST.out.congrL (fun t u ls s _ => ku_first t u ls s))
   replace HST:=HST2
   clear HST2
   go_wp2_with fail
   clear hnx hen
   refine (pt_seesG (A:=(fun (_ _ : Nd) (_ : List Nd) s => uOne E f 23 (stepP s))) (B:=(KU E ⟨#[45]⟩ ⟨#[33]⟩ (uOne E f 23) (uOne E f 24) (fun s => run E.L E.e f .call s) true d1)) (sr_ne HQ.out) ⟨#[45]⟩ HST.out).mono ?_
   rintro e w2 ⟨b9,rfl,ht9,hy9,hn9⟩
   replace HIT:=Lib.hid (HIT.out.kept (ht9.block _ (Nat.lt_trans HMR.out HRZ.out) NM.out) (ht9.block _ HRZ.out NR.out))
   replace HRZ:=Lib.hid (Nat.lt_of_lt_of_le HRZ.out ht9.size)
   replace HX:=bT HX ht9 NE
   replace HO:=Lib.hid (HO.out.turned ht9 (row_ne HO.out HQ.out))
   replace HZ:=zT HZ ht9
   replace HT:=tT HT ht9
   clear ht9 HST
   cases b9
   ·have HST:=Lib.hid (hn9 rfl)
    clear hy9 hn9
    go_wp2_with fail
    go_roundg (gk - 1)
    case measure => have h:=HGK.out;simp at h;omega
    case rel => exact ⟨true,d1,HIT.out,by have h:=HGK.out;simp at h ⊢;omega,HT.out,HZ.out,HX.out,HRZ.out,HST.out⟩
   ·have HST:=Lib.hid (hy9 rfl)
    clear hy9 hn9
    go_wp2_with fail
    refine (pt_next (K:=(fun (_ _ : Nd) (_ : List Nd) s => uOne E f 23 s)) (sr_ne HQ.out) HST.out).mono ?_
    rintro e w3 ⟨y9,rfl,ht9,hst9⟩
    replace HX:=bT HX ht9 NE
    replace HO:=Lib.hid (HO.out.turned ht9 (row_ne HO.out HQ.out))
    replace HZ:=zT HZ ht9
    replace HT:=tT HT ht9
    replace HST:=Lib.hid hst9
    clear ht9 hst9
    replace HST : Hid (PT E rr _ (fun (t u : Nd) (ls : List Nd) s => (run E.L E.e f .unary s).bind fun k s => (fun (_ _ : Nd) (_ : List Nd) k s => Res.ok (.mk 23 ⟨#[]⟩ 0 [k]) ⟨s.i,s.dep,s.many + 1⟩) t u ls k s) _ _ _ _ _):=HST.out
    go_wp2_with fail
    refine (pt_call (sr_ne HQ.out) ihU HO0.out (fun b hb => ⟨Nat.lt_of_lt_of_le HZ.out hb,fun e => Nat.lt_irrefl _ (Nat.lt_of_lt_of_le (HO.out.lt _ e).2 hb)⟩) HST.out).mono ?_
    rintro e w4 ⟨ht9,⟨v9,rfl,x_k,rfl,hst9⟩ | ⟨c9,p9,hr9,hc9,rfl⟩⟩
    rotate_left
    ·exact ⟨rfl,HT.out.then ht9,.inr ⟨_,_,hr9,hc9,rfl⟩⟩
    replace HX:=bT HX ht9 NE
    replace HO:=Lib.hid (HO.out.turned ht9 (row_ne HO.out HQ.out))
    replace HZ:=zT HZ ht9
    replace HT:=tT HT ht9
    replace HST:=Lib.hid hst9
    clear ht9 hst9
    replace HST : Hid (PT1 E rr _ (fun t u (_ : List Nd) n s => (fun (t u : Nd) (ls : List Nd) s => Res.ok (.mk 23 ⟨#[]⟩ 0 ls) ⟨s.i,s.dep,s.many + 1⟩) t u [n] s) _ _ _ _ _ _):=HST.out
    replace HST:=Lib.hid (PT1.first (K:=(fun (t u : Nd) (ls : List Nd) s => Res.ok (.mk 23 ⟨#[]⟩ 0 ls) ⟨s.i,s.dep,s.many + 1⟩)) HST.out)
    replace HST:=Lib.hid (HST.out.weak (S':=SR w (.slice (some ⟨(World.heap w4).size,0,none⟩) 1 1)) (fun b hb h => ⟨h.1,fun e => Nat.lt_irrefl _ (Option.some.inj e ▸ hb)⟩))
    have HO8:=Lib.hid (OwnN.new w4 (w.heap.size + 1) [x_k] (by simp) (by simp) HZ.out #[.int .i64 x_k.kind,.string x_k.text,.int .i64 x_k.num,.slice x_k.a x_k.len x_k.cap] rfl)
    obtain ⟨o9,ho9⟩:=oN x_k
    replace HX:=bA HX o9
    replace HST:=Lib.hid (HST.out.alloc o9)
    replace HT:=tA HT o9
    replace HZ:=zA HZ o9
    subst ho9
    replace HO:=HO8
    clear HO8
    go_wp2_with fail
    (try rw [← (show (World.alloc w4 (.cells #[.int .i64 x_k.kind,.string x_k.text,.int .i64 x_k.num,.slice x_k.a x_k.len x_k.cap] 24)).heap.size = _ from World.size_alloc _ _)])
    generalize (World.alloc w4 (.cells #[.int .i64 x_k.kind,.string x_k.text,.int .i64 x_k.num,.slice x_k.a x_k.len x_k.cap] 24)) = w5 at *
    generalize (World.heap w4).size = g6 at *
    go_wp2_with fail
    refine (pt_node (K:=(fun (t u : Nd) (ls : List Nd) s => (fun (_ _ : Nd) (_ : List Nd) n s => Res.ok n s) t u [] (.mk 23 ((fun _ _ => ⟨#[]⟩) t u) 0 ls) s)) (sr_ne HQ.out) 23 _ _ _ _ HST.out).mono ?_
    rintro e w7 ⟨rfl,ht9,hst9⟩
    replace HX:=bT HX ht9 NE
    replace HO:=Lib.hid (HO.out.turned ht9 (row_ne HO.out HQ.out))
    replace HZ:=zT HZ ht9
    replace HT:=tT HT ht9
    replace HST:=Lib.hid hst9
    clear ht9 hst9
    replace HST:=Lib.hid (PT.made (K:=(fun (_ _ : Nd) (_ : List Nd) n s => Res.ok n s)) (S':=SR w (.slice none 0 0)) (fun _ _ => ⟨#[]⟩) (fun _ _ _ _ => rfl) HO.out (fun b h => ⟨h.1,fun e => by cases e⟩) (fun k hk => ⟨row_gt HO.out k hk,fun e => by cases e⟩) HST.out)
    clear HO
    have HO:=Lib.hid (OwnN.nil w7 (w.heap.size + 1))
    obtain ⟨u0,u1,u2,u3,g0,g1,g2,g3,gl⟩:=HX.out.f4
    go_wp2_with fail
    clear u0 u1 u2 u3 g0 g1 g2 g3 gl
    have HEND:=Lib.hid (pt_end (x:=(⟨23,⟨#[]⟩,0,(some ⟨g6,0,none⟩),1,1⟩ : NV)) HQ.out HT.out HX.out (fun b h => h.1) HST.out rfl)
    refine open_post (fun W => Blk W w.heap.size 24 #[.int .i64 (⟨23,⟨#[]⟩,0,(some ⟨g6,0,none⟩),1,1⟩ : NV).kind,.string (⟨23,⟨#[]⟩,0,(some ⟨g6,0,none⟩),1,1⟩ : NV).text,.int .i64 (⟨23,⟨#[]⟩,0,(some ⟨g6,0,none⟩),1,1⟩ : NV).num,.slice (⟨23,⟨#[]⟩,0,(some ⟨g6,0,none⟩),1,1⟩ : NV).a (⟨23,⟨#[]⟩,0,(some ⟨g6,0,none⟩),1,1⟩ : NV).len (⟨23,⟨#[]⟩,0,(some ⟨g6,0,none⟩),1,1⟩ : NV).cap] ∧ PEnd E rr w (.returned (nvA (⟨23,⟨#[]⟩,0,(some ⟨g6,0,none⟩),1,1⟩ : NV))) W) HEND.out ?_
    rintro W ⟨hb,hE⟩
    obtain ⟨v0,v1,v2,v3,-⟩:=hb.f4
    exact bodyPost_ret (v:=nvA (⟨23,⟨#[]⟩,0,(some ⟨g6,0,none⟩),1,1⟩ : NV)) (by simp [results,Tryz.results129,go_sem,nvA,v0,v1,v2,v3]) rfl hE
  ·skip
   have HIT:=Lib.hid hit2
   have HX2:=Lib.hid (htr.blk HX.out (fun e => by have e2 : w.heap.size = r:=e;have h1:=HMR.out;omega))
   replace HX:=HX2
   clear HX2
   replace HT:=Lib.hid (HT.out.then_new htr (by have h1:=HMR.out;omega))
   replace HZ:=zT HZ htr
   replace HRZ:=Lib.hid (Nat.lt_of_lt_of_le HRZ.out htr.size)
   replace HST:=Lib.hid (HST.out.iter htr (by have h1:=HMR.out;have h2:=HQ.out;omega))
   clear HO
   have HO:=Lib.hid (OwnN.nil w5 (w.heap.size + 1))
   have HGK:=Lib.hid hgk
   clear hit2 htr hit hgk
   have HST2 : Hid (PT E rr w5 (fun t u ls s => if seesP E.L ⟨#[33]⟩ s = true then (fun (_ _ : Nd) (_ : List Nd) s => uOne E f 24 (stepP s)) t u ls s else (KU E ⟨#[45]⟩ ⟨#[33]⟩ (uOne E f 23) (uOne E f 24) (fun s => run E.L E.e f .call s) d0 true) t u ls s) _ _ [] _ 0):=Lib.hid (HST.out.congrL (fun t u ls s _ => ku_second (by decide +kernel) t u ls s))
   replace HST:=HST2
   clear HST2
   go_wp2_with fail
   clear hnx hen
   refine (pt_seesG (A:=(fun (_ _ : Nd) (_ : List Nd) s => uOne E f 24 (stepP s))) (B:=(KU E ⟨#[45]⟩ ⟨#[33]⟩ (uOne E f 23) (uOne E f 24) (fun s => run E.L E.e f .call s) d0 true)) (sr_ne HQ.out) ⟨#[33]⟩ HST.out).mono ?_
   rintro e w8 ⟨b9,rfl,ht9,hy9,hn9⟩
   replace HIT:=Lib.hid (HIT.out.kept (ht9.block _ (Nat.lt_trans HMR.out HRZ.out) NM.out) (ht9.block _ HRZ.out NR.out))
   replace HRZ:=Lib.hid (Nat.lt_of_lt_of_le HRZ.out ht9.size)
   replace HX:=bT HX ht9 NE
   replace HO:=Lib.hid (HO.out.turned ht9 (row_ne HO.out HQ.out))
   replace HZ:=zT HZ ht9
   replace HT:=tT HT ht9
   clear ht9 HST
   cases b9
   ·have HST:=Lib.hid (hn9 rfl)
    clear hy9 hn9
    go_wp2_with fail
    go_roundg (gk - 1)
    case measure => have h:=HGK.out;simp at h;omega
    case rel => exact ⟨d0,true,HIT.out,by have h:=HGK.out;simp at h ⊢;omega,HT.out,HZ.out,HX.out,HRZ.out,HST.out⟩
   ·have HST:=Lib.hid (hy9 rfl)
    clear hy9 hn9
    go_wp2_with fail
    refine (pt_next (K:=(fun (_ _ : Nd) (_ : List Nd) s => uOne E f 24 s)) (sr_ne HQ.out) HST.out).mono ?_
    rintro e w9 ⟨y9,rfl,ht9,hst9⟩
    replace HX:=bT HX ht9 NE
    replace HO:=Lib.hid (HO.out.turned ht9 (row_ne HO.out HQ.out))
    replace HZ:=zT HZ ht9
    replace HT:=tT HT ht9
    replace HST:=Lib.hid hst9
    clear ht9 hst9
    replace HST : Hid (PT E rr _ (fun (t u : Nd) (ls : List Nd) s => (run E.L E.e f .unary s).bind fun k s => (fun (_ _ : Nd) (_ : List Nd) k s => Res.ok (.mk 24 ⟨#[]⟩ 0 [k]) ⟨s.i,s.dep,s.many + 1⟩) t u ls k s) _ _ _ _ _):=HST.out
    go_wp2_with fail
    refine (pt_call (sr_ne HQ.out) ihU HO0.out (fun b hb => ⟨Nat.lt_of_lt_of_le HZ.out hb,fun e => Nat.lt_irrefl _ (Nat.lt_of_lt_of_le (HO.out.lt _ e).2 hb)⟩) HST.out).mono ?_
    rintro e w10 ⟨ht9,⟨v9,rfl,x_k,rfl,hst9⟩ | ⟨c9,p9,hr9,hc9,rfl⟩⟩
    rotate_left
    ·exact ⟨rfl,HT.out.then ht9,.inr ⟨_,_,hr9,hc9,rfl⟩⟩
    replace HX:=bT HX ht9 NE
    replace HO:=Lib.hid (HO.out.turned ht9 (row_ne HO.out HQ.out))
    replace HZ:=zT HZ ht9
    replace HT:=tT HT ht9
    replace HST:=Lib.hid hst9
    clear ht9 hst9
    replace HST : Hid (PT1 E rr _ (fun t u (_ : List Nd) n s => (fun (t u : Nd) (ls : List Nd) s => Res.ok (.mk 24 ⟨#[]⟩ 0 ls) ⟨s.i,s.dep,s.many + 1⟩) t u [n] s) _ _ _ _ _ _):=HST.out
    replace HST:=Lib.hid (PT1.first (K:=(fun (t u : Nd) (ls : List Nd) s => Res.ok (.mk 24 ⟨#[]⟩ 0 ls) ⟨s.i,s.dep,s.many + 1⟩)) HST.out)
    replace HST:=Lib.hid (HST.out.weak (S':=SR w (.slice (some ⟨(World.heap w10).size,0,none⟩) 1 1)) (fun b hb h => ⟨h.1,fun e => Nat.lt_irrefl _ (Option.some.inj e ▸ hb)⟩))
    have HO8:=Lib.hid (OwnN.new w10 (w.heap.size + 1) [x_k] (by simp) (by simp) HZ.out #[.int .i64 x_k.kind,.string x_k.text,.int .i64 x_k.num,.slice x_k.a x_k.len x_k.cap] rfl)
    obtain ⟨o9,ho9⟩:=oN x_k
    replace HX:=bA HX o9
    replace HST:=Lib.hid (HST.out.alloc o9)
    replace HT:=tA HT o9
    replace HZ:=zA HZ o9
    subst ho9
    replace HO:=HO8
    clear HO8
    go_wp2_with fail
    (try rw [← (show (World.alloc w10 (.cells #[.int .i64 x_k.kind,.string x_k.text,.int .i64 x_k.num,.slice x_k.a x_k.len x_k.cap] 24)).heap.size = _ from World.size_alloc _ _)])
    generalize (World.alloc w10 (.cells #[.int .i64 x_k.kind,.string x_k.text,.int .i64 x_k.num,.slice x_k.a x_k.len x_k.cap] 24)) = w11 at *
    generalize (World.heap w10).size = g12 at *
    go_wp2_with fail
    refine (pt_node (K:=(fun (t u : Nd) (ls : List Nd) s => (fun (_ _ : Nd) (_ : List Nd) n s => Res.ok n s) t u [] (.mk 24 ((fun _ _ => ⟨#[]⟩) t u) 0 ls) s)) (sr_ne HQ.out) 24 _ _ _ _ HST.out).mono ?_
    rintro e w13 ⟨rfl,ht9,hst9⟩
    replace HX:=bT HX ht9 NE
    replace HO:=Lib.hid (HO.out.turned ht9 (row_ne HO.out HQ.out))
    replace HZ:=zT HZ ht9
    replace HT:=tT HT ht9
    replace HST:=Lib.hid hst9
    clear ht9 hst9
    replace HST:=Lib.hid (PT.made (K:=(fun (_ _ : Nd) (_ : List Nd) n s => Res.ok n s)) (S':=SR w (.slice none 0 0)) (fun _ _ => ⟨#[]⟩) (fun _ _ _ _ => rfl) HO.out (fun b h => ⟨h.1,fun e => by cases e⟩) (fun k hk => ⟨row_gt HO.out k hk,fun e => by cases e⟩) HST.out)
    clear HO
    have HO:=Lib.hid (OwnN.nil w13 (w.heap.size + 1))
    obtain ⟨u0,u1,u2,u3,g0,g1,g2,g3,gl⟩:=HX.out.f4
    go_wp2_with fail
    clear u0 u1 u2 u3 g0 g1 g2 g3 gl
    have HEND:=Lib.hid (pt_end (x:=(⟨24,⟨#[]⟩,0,(some ⟨g12,0,none⟩),1,1⟩ : NV)) HQ.out HT.out HX.out (fun b h => h.1) HST.out rfl)
    refine open_post (fun W => Blk W w.heap.size 24 #[.int .i64 (⟨24,⟨#[]⟩,0,(some ⟨g12,0,none⟩),1,1⟩ : NV).kind,.string (⟨24,⟨#[]⟩,0,(some ⟨g12,0,none⟩),1,1⟩ : NV).text,.int .i64 (⟨24,⟨#[]⟩,0,(some ⟨g12,0,none⟩),1,1⟩ : NV).num,.slice (⟨24,⟨#[]⟩,0,(some ⟨g12,0,none⟩),1,1⟩ : NV).a (⟨24,⟨#[]⟩,0,(some ⟨g12,0,none⟩),1,1⟩ : NV).len (⟨24,⟨#[]⟩,0,(some ⟨g12,0,none⟩),1,1⟩ : NV).cap] ∧ PEnd E rr w (.returned (nvA (⟨24,⟨#[]⟩,0,(some ⟨g12,0,none⟩),1,1⟩ : NV))) W) HEND.out ?_
    rintro W ⟨hb,hE⟩
    obtain ⟨v0,v1,v2,v3,-⟩:=hb.f4
    exact bodyPost_ret (v:=nvA (⟨24,⟨#[]⟩,0,(some ⟨g12,0,none⟩),1,1⟩ : NV)) (by simp [results,Tryz.results129,go_sem,nvA,v0,v1,v2,v3]) rfl hE
end Go.Proofs.YtbpldfmmlgkfnaaGreatDoor
